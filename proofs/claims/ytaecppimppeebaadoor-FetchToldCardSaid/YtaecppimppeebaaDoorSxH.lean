/- A small layer for proofs about calls, part 11b1: a drawn order in which some operations make or write memory, one behind the other. -/
import Derived.Test.YtaecppimppeebaaDoorSxE
namespace Go.SX
open Go

section
variable {P : Program} {ops : Array Oper} {md : Region.Mode} {wl eff pers : Nat → Bool}

/-- a class of worlds that more blocks do not leave -/
def Closed (C : World → Prop) : Prop := ∀ w w', C w → Kept w (fun _ => False) w' → C w'
theorem closed_mem (E : Env) (M : List Res) (Z : Heap) : Closed (Mem E M Z) := fun _ _ h k =>
  h.after k (fun b o hb => (k.block b (heap_lt (h.frozen b o hb)) (fun f => f)).trans (h.frozen b o hb)) (fun _ _ hb => .inl hb)
theorem closed_and {C D : World → Prop} (h : Closed C) (k : Closed D) : Closed (fun w => C w ∧ D w) := fun w w' hw hk => ⟨h w w' hw.1 hk, k w w' hw.2 hk⟩

/-- what is known of a look, in whatever class within C -/
def lookC (P : Program) (ops : Array Oper) (wl : Nat → Bool) (i : Nat) (o : Oper) (C : World → Prop) (a : Act) (v : Value) : Prop :=
  bif wl i then ydAll P ops o a v else ∀ C' : World → Prop, (∀ w, C' w → C w) → Closed C' → ydTo P ops o C' C' a v
def opC (P : Program) (ops : Array Oper) (wl eff pers : Nat → Bool) (i : Nat) (C : World → Prop) (K : (World → Prop) → Act → Prop) (a : Act) : Prop :=
  ∃ o, ops[i]? = some o ∧ ((∃ v, (bif wl i then ydAll P ops o a v else ydTo P ops o C C a v) ∧ K C (a.put o.dst v)) ∨
    (eff i = true ∧ Region.wanted o (yielded ops a.tmps) = true ∧ ∀ w, C w → o.wp P a w (fun a' w' => ∃ C', C' w' ∧ (pers i = true → ∀ w, C' w → C w) ∧ Closed C' ∧ a'.defers = [] ∧ K C' a') (fun _ _ _ => False)))
def wpAnyC (P : Program) (md : Region.Mode) (ops : Array Oper) (wl eff pers : Nat → Bool) (Q : Act → World → Prop) : Nat → Array Bool → (World → Prop) → Act → Prop
  | 0, listed, C, a => Region.ready md ops listed = [] ∧ ∀ w, C w → Q a w
  | fuel + 1, listed, C, a =>
    (Region.ready md ops listed = [] → ∀ w, C w → Q a w) ∧
    ∀ i ∈ Region.ready md ops listed, opC P ops wl eff pers i C (wpAnyC P md ops wl eff pers Q fuel (listed.setIfInBounds i true)) a

theorem put_defers (a : Act) (d : Option Tmp) (v : Value) : (a.put d v).defers = a.defers := by cases d <;> rfl
theorem wp_swap {o : Oper} {a1 a2 : Act} {w : World} {X X' : Act → World → Prop} {Q : Exit → Act → World → Prop} (he : execOp a2.eval o = execOp a1.eval o) (h : o.wp P a1 w X (fun _ _ _ => False))
    (hD : ∀ a' w', X a' w' → a'.defers = []) (hX : ∀ x w', X (a1.put o.dst x) w' → X' (a2.put o.dst x) w') : o.wp P a2 w X' Q := by
  unfold Oper.wp at h ⊢
  rw [he]
  cases hr : (execOp a1.eval o).run P w with
  | ok n w' =>
    rw [hr] at h
    cases n with
    | value v => exact hX _ _ h
    | skip => exact hX _ _ h
    | defer d =>
      have := hD _ _ h
      rw [put_defers] at this
      cases this
    | enter f args =>
      simp only [Oper.upon_enter] at h ⊢
      refine h.mono fun e w2 h2 => ?_
      cases e with
      | returned v => exact hX _ _ h2
      | panicked c => exact h2.elim
      | outgrown => obtain ⟨a0, w0, h0⟩ := h2; exact h0.elim
    | row r args =>
      simp only [Oper.upon_row] at h ⊢
      exact h.mono fun v w2 h2 => hX _ _ h2
    | _ => exact h.elim
  | halt hh w' =>
    rw [hr] at h
    cases hh <;> exact h.elim

theorem wpAny_of_C {Q : Act → World → Prop} {Q' : Exit → Act → World → Prop} (hQ : ∀ a w, Q a w → Q' .normal a w) :
    ∀ (fuel : Nat) (listed : Array Bool) (C : World → Prop) (a : Act) (w : World), C w → wpAnyC P md ops wl eff pers Q fuel listed C a → wpAny P md ops Q' fuel listed a w
  | 0, _, _, _, _, hw, h => ⟨h.1, hQ _ _ (h.2 _ hw)⟩
  | fuel + 1, listed, C, a, w, hw, h => ⟨fun h0 => hQ _ _ (h.1 h0 _ hw), fun i hi => by
      obtain ⟨o, h1, h2 | ⟨_, h3, h4⟩⟩ := h.2 i hi
      · obtain ⟨v, h2, h5⟩ := h2
        have : ydTo P ops o C C a v := by
          cases hl : wl i with
          | true => rw [hl] at h2; exact ydAll.to h2
          | false => rw [hl] at h2; exact h2
        exact wpOp_of_ydTo h1 this hw fun w' hw' => wpAny_of_C hQ fuel _ _ _ _ hw' h5
      · unfold wpOp
        simp only [h1]
        rw [if_pos h3]
        left
        exact wp_swap rfl (h4 w hw) (fun _ _ ⟨_, _, _, _, hd, _⟩ => hd) fun x w' ⟨C', hc, _, _, _, hk⟩ => wpAny_of_C hQ fuel _ _ _ _ hc hk⟩

theorem lookC.same {i : Nat} {o : Oper} {C : World → Prop} {a a' : Act} {v : Value} (h : lookC P ops wl i o C a v) (he : execOp a'.eval o = execOp a.eval o)
    (hw : Region.wanted o (yielded ops a'.tmps) = Region.wanted o (yielded ops a.tmps)) : lookC P ops wl i o C a' v := by
  unfold lookC at h ⊢
  cases hl : wl i with
  | true => rw [hl] at h; exact ydAll.same h he hw
  | false => rw [hl] at h; exact fun C' h1 h2 => ydTo.same (h C' h1 h2) he hw
theorem lookC.less {i : Nat} {o : Oper} {C C' : World → Prop} {a : Act} {v : Value} (h : lookC P ops wl i o C a v) (hc : wl i = true ∨ ∀ w, C' w → C w) : lookC P ops wl i o C' a v := by
  unfold lookC at h ⊢
  cases hl : wl i with
  | true => rw [hl] at h; exact h
  | false =>
    rw [hl] at h
    rcases hc with hc | hc
    · rw [hl] at hc; cases hc
    · exact fun D h1 h2 => h D (fun w hw => hc w (h1 w hw)) h2
theorem lookC.at {i : Nat} {o : Oper} {C : World → Prop} {a : Act} {v : Value} (h : lookC P ops wl i o C a v) (hc : Closed C) : bif wl i then ydAll P ops o a v else ydTo P ops o C C a v := by
  unfold lookC at h
  cases hl : wl i with
  | true => rw [hl] at h; exact h
  | false => rw [hl] at h; exact h C (fun _ h => h) hc

/-- a look may be taken first -/
theorem wpAnyC_first (hsel : ∀ (j : Nat) (o : Oper) cs b, ops[j]? = some o → o.op ≠ .select cs b) {F : Nat} {Q : Act → World → Prop} {i : Nat} {oi : Oper} {v : Value} (hi : ops[i]? = some oi) :
    ∀ (fuel : Nat) (listed : Array Bool) (C : World → Prop) (a : Act), Closed C → dc md ops listed → listed.size = ops.size →
      (∀ j oj, ops[j]? = some oj → j ≠ i → listed.getD j true = false → waits md ops i F j = false → oi.apart ops oj = true ∧ (wl i = true ∨ eff j = false ∨ pers j = true)) →
      i ∈ Region.ready md ops listed → lookC P ops wl i oi C a v →
      wpAnyC P md ops wl eff pers Q fuel (listed.setIfInBounds i true) C (a.put oi.dst v) → wpAnyC P md ops wl eff pers Q (fuel + 1) listed C a := by
  intro fuel
  induction fuel with
  | zero =>
    intro listed C a hcl _ _ _ hr hy H
    refine ⟨fun h => (by rw [h] at hr; cases hr), fun j hj => ?_⟩
    by_cases hji : j = i
    · subst hji; exact ⟨oi, hi, .inl ⟨v, hy.at hcl, H⟩⟩
    · have := ready_mono hj hji
      rw [H.1] at this
      cases this
  | succ fuel ih =>
    intro listed C a hcl hdc hsz hfree hr hy H
    refine ⟨fun h => (by rw [h] at hr; cases hr), fun j hj => ?_⟩
    by_cases hji : j = i
    · subst hji; exact ⟨oi, hi, .inl ⟨v, hy.at hcl, H⟩⟩
    · obtain ⟨oj, hoj, hcase⟩ := H.2 j (ready_mono hj hji)
      obtain ⟨hjun, oj', hoj', hall⟩ := mem_ready.1 hj
      rw [hoj] at hoj'; cases hoj'
      have hnot : waits md ops i F j = false := by
        cases hwt : waits md ops i F j with
        | false => rfl
        | true =>
          have h1 := waits_listed hdc F j oj hoj (fun e he hb => hall e he hb) hwt
          have h0 := (mem_ready.1 hr).1
          have hlt : i < listed.size := by rw [hsz]; exact (Array.getElem?_eq_some_iff.1 hi).1
          simp [hlt] at h0 h1; rw [h0] at h1; cases h1
      obtain ⟨hap, hkind⟩ := hfree j oj hoj hji hjun hnot
      obtain ⟨p1, p2, p3⟩ := Oper.apart_spec hap
      have hsi : ∀ cs b, oi.op ≠ .select cs b := fun cs b => hsel i oi cs b hi
      have hsj : ∀ cs b, oj.op ≠ .select cs b := fun cs b => hsel j oj cs b hoj
      have ej := execOp_put oj hsj a oi.dst v p1
      have wj := wanted_put (ops := ops) oj a oi.dst v p1
      have hcomm : (listed.setIfInBounds j true).setIfInBounds i true = (listed.setIfInBounds i true).setIfInBounds j true := Array.setIfInBounds_comm _ _ hji
      have hfree' : ∀ k ok, ops[k]? = some ok → k ≠ i → (listed.setIfInBounds j true).getD k true = false →
          waits md ops i F k = false → oi.apart ops ok = true ∧ (wl i = true ∨ eff k = false ∨ pers k = true) := fun k ok hk hki hun hno => by
        refine hfree k ok hk hki ?_ hno
        by_cases hjk : j = k
        · subst hjk; exact hjun
        · rw [getD_set_ne true hjk] at hun; exact hun
      refine ⟨oj, hoj, ?_⟩
      rcases hcase with ⟨u, hyj, hK⟩ | ⟨heff, hwant, hrun⟩
      · refine .inl ⟨u, ?_, ?_⟩
        · cases hlj : wl j with
          | true => rw [hlj] at hyj; exact ydAll.same hyj ej.symm wj.symm
          | false => rw [hlj] at hyj; exact ydTo.same hyj ej.symm wj.symm
        · refine ih (listed.setIfInBounds j true) C _ hcl (dc_set hdc hj hsz) (by simp [hsz]) hfree' (ready_mono hr (Ne.symm hji))
            (hy.same (execOp_put oi hsi a oj.dst u p3) (wanted_put (ops := ops) oi a oj.dst u p3)) ?_
          rw [hcomm, ← Act.put_comm a v u p2]
          exact hK
      · refine .inr ⟨heff, by rw [← wj]; exact hwant, fun w hw => ?_⟩
        refine wp_swap ej.symm (hrun w hw) (fun _ _ ⟨_, _, _, _, hd, _⟩ => hd) fun u w' ⟨C', h1, h2, h3, hd, hK⟩ => ⟨C', h1, h2, h3, by rw [put_defers, put_defers] at hd; rw [put_defers]; exact hd, ?_⟩
        refine ih (listed.setIfInBounds j true) C' _ h3 (dc_set hdc hj hsz) (by simp [hsz]) hfree' (ready_mono hr (Ne.symm hji))
          ((hy.same (execOp_put oi hsi a oj.dst u p3) (wanted_put (ops := ops) oi a oj.dst u p3)).less ?_) ?_
        · rcases hkind with h | h | h
          · exact .inl h
          · rw [heff] at h; cases h
          · exact .inr (h2 h)
        · rw [hcomm, ← Act.put_comm a v u p2]
          exact hK

/-- what the walk in one order asks -/
def wpLexC (P : Program) (ops : Array Oper) (wl eff pers : Nat → Bool) (Q : Act → World → Prop) : List Nat → (World → Prop) → Act → Prop
  | [], C, a => ∀ w, C w → Q a w
  | i :: r, C, a => ∃ o, ops[i]? = some o ∧ ((∃ v, lookC P ops wl i o C a v ∧ wpLexC P ops wl eff pers Q r C (a.put o.dst v)) ∨
      (eff i = true ∧ Region.wanted o (yielded ops a.tmps) = true ∧ ∀ w, C w → o.wp P a w (fun a' w' => ∃ C', C' w' ∧ (pers i = true → ∀ w, C' w → C w) ∧ Closed C' ∧ a'.defers = [] ∧ wpLexC P ops wl eff pers Q r C' a') (fun _ _ _ => False)))

def ordAt (md : Region.Mode) (ops : Array Oper) (wl eff pers : Nat → Bool) (F i : Nat) (r : List Nat) (oi : Oper) : Bool :=
  (oi.after.all fun e => decide (e.on < ops.size)) && (oi.after.all fun e => !Region.binds md e || !((i :: r).elem e.on)) &&
    (bif eff i then r.all fun j => waits md ops i F j
      else r.all fun j => waits md ops i F j || match ops[j]? with
        | some oj => oi.apart ops oj && (wl i || !eff j || pers j)
        | none => true)
def ordOk (md : Region.Mode) (ops : Array Oper) (wl eff pers : Nat → Bool) (F : Nat) : List Nat → Bool
  | [] => true
  | i :: r => !(r.elem i) && (match ops[i]? with
      | some oi => ordAt md ops wl eff pers F i r oi
      | none => false) && ordOk md ops wl eff pers F r

theorem wpAnyC_lex (hsel : ∀ (j : Nat) (o : Oper) cs b, ops[j]? = some o → o.op ≠ .select cs b) {F : Nat} {Q : Act → World → Prop} :
    ∀ (l : List Nat) (listed : Array Bool) (C : World → Prop) (a : Act), ordOk md ops wl eff pers F l = true → Closed C → dc md ops listed → listed.size = ops.size → (∀ j, j < ops.size → (listed.getD j true = false ↔ j ∈ l)) →
      wpLexC P ops wl eff pers Q l C a → wpAnyC P md ops wl eff pers Q l.length listed C a
  | [], listed, C, a, _, _, _, hsz, hin, h => by
    refine ⟨?_, h⟩
    rw [List.eq_nil_iff_forall_not_mem]
    intro i hi
    obtain ⟨h1, o, h2, _⟩ := mem_ready.1 hi
    have := (hin i (Array.getElem?_eq_some_iff.1 h2).1).1 h1
    cases this
  | i :: r, listed, C, a, hok, hcl, hdc, hsz, hin, h => by
    obtain ⟨o, ho, hcase⟩ := h
    have hlt : i < ops.size := (Array.getElem?_eq_some_iff.1 ho).1
    simp only [ordOk, ho, Bool.and_eq_true, Bool.not_eq_true', ordAt] at hok
    obtain ⟨⟨hni, ⟨hin2, hafter⟩, hkind⟩, hok'⟩ := hok
    have hni' : i ∉ r := by simpa using hni
    have hready : i ∈ Region.ready md ops listed := by
      refine mem_ready.2 ⟨(hin i hlt).2 (by simp), o, ho, fun e he hb => ?_⟩
      have := Array.all_eq_true'.1 hafter e he
      simp only [hb, Bool.not_true, Bool.false_or, Bool.not_eq_true'] at this
      have hnm : e.on ∉ i :: r := by
        intro hm
        rw [List.elem_eq_true_of_mem hm] at this; cases this
      have hel : e.on < ops.size := by simpa using (Array.all_eq_true'.1 hin2 e he)
      have : ¬ listed.getD e.on true = false := fun hh => hnm ((hin e.on hel).1 hh)
      simp [hsz, hel] at this ⊢
      exact this
    have hin' : ∀ j, j < ops.size → ((listed.setIfInBounds i true).getD j true = false ↔ j ∈ r) := fun j hj => by
      by_cases hij : i = j
      · subst hij; simp [hsz, hlt, hni']
      · rw [getD_set_ne true hij, hin j hj]
        simp [Ne.symm hij]
    have hdc' := dc_set hdc hready hsz
    have hsz' : (listed.setIfInBounds i true).size = ops.size := by simp [hsz]
    rcases hcase with ⟨v, hy, hn⟩ | ⟨heff, hwant, hrun⟩
    · refine wpAnyC_first hsel (F := F) ho r.length listed C a hcl hdc hsz (fun j oj hj hne hun hno => ?_) hready hy (wpAnyC_lex hsel r _ C _ hok' hcl hdc' hsz' hin' hn)
      have hjl := (Array.getElem?_eq_some_iff.1 hj).1
      have hjr : j ∈ r := by
        have := (hin j hjl).1 hun
        rcases List.mem_cons.1 this with e | e
        · exact absurd e hne
        · exact e
      cases hei : eff i with
      | true =>
        rw [hei] at hkind
        simp only [cond_true, List.all_eq_true] at hkind
        have := hkind j hjr
        rw [hno] at this; cases this
      | false =>
        rw [hei] at hkind
        simp only [cond_false, List.all_eq_true] at hkind
        have := hkind j hjr
        simp only [hno, hj, Bool.false_or, Bool.and_eq_true, Bool.or_eq_true, Bool.not_eq_true'] at this
        obtain ⟨h1, h2⟩ := this
        refine ⟨h1, ?_⟩
        rcases h2 with (h2 | h2) | h2
        · exact .inl h2
        · exact .inr (.inl h2)
        · exact .inr (.inr h2)
    · refine ⟨fun h0 => (by rw [h0] at hready; cases hready), fun j hj => ?_⟩
      by_cases hji : j = i
      · subst hji
        refine ⟨o, ho, .inr ⟨heff, hwant, fun w hw => ?_⟩⟩
        exact wp_swap rfl (hrun w hw) (fun _ _ ⟨_, _, _, _, hd, _⟩ => hd) fun x w' ⟨C', h1, h2, h3, hd, hK⟩ => ⟨C', h1, h2, h3, hd, wpAnyC_lex hsel r _ C' _ hok' h3 hdc' hsz' hin' hK⟩
      · exfalso
        obtain ⟨hjun, oj, hoj, hall⟩ := mem_ready.1 hj
        have hjr : j ∈ r := by
          have := (hin j (Array.getElem?_eq_some_iff.1 hoj).1).1 hjun
          rcases List.mem_cons.1 this with e | e
          · exact absurd e hji
          · exact e
        rw [heff] at hkind
        simp only [cond_true, List.all_eq_true] at hkind
        have h1 := waits_listed hdc F j oj hoj (fun e he hb => hall e he hb) (hkind j hjr)
        have h0 := (mem_ready.1 hready).1
        have hlt' : i < listed.size := by rw [hsz]; exact hlt
        simp [hlt'] at h0 h1
        rw [h0] at h1; cases h1

theorem wp_region_ord {id : Nat} {Q : Act → World → Prop} {Q' : Exit → Act → World → Prop} {a : Act} {w : World} {C : World → Prop} (hm : P.follows .mixedOrders = true) (hs : Region.noSelect ops = true) {F : Nat} {ord : List Nat}
    (hok : ordOk .any ops wl eff pers F ord = true) (hall : ((List.range ops.size).all fun i => ord.elem i) = true) (hlen : ord.length = ops.size) (hcl : Closed C)
    (hQ : ∀ a w, Q a w → Q' .normal a w) (hC : C { w with drawn := w.drawn + 1 }) (h : wpLexC P ops wl eff pers Q ord C a) : (Code.region id ops true).wp P Q' a w := by
  refine wp_region_any hm (wpAny_of_C (wl := wl) (eff := eff) (pers := pers) hQ _ _ C _ _ hC ?_)
  have := wpAnyC_lex (md := .any) (Region.noSelect_spec hs) ord (Array.replicate ops.size false) C a hok hcl (fun j o hj hl => by
    have hjl := (Array.getElem?_eq_some_iff.1 hj).1
    simp [hjl] at hl) (by simp) (fun j hj => by
    simp only [List.all_eq_true, List.mem_range] at hall
    have h1 := hall j hj
    have : j ∈ ord := by simpa using h1
    simp [hj, this]) h
  rw [hlen] at this
  exact this
end
end Go.SX
