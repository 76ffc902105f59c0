/- A small layer for proofs about calls, part 11b: regions whose guards are split; regions that draw their order. -/
import Derived.Test.YtaecppimppeebaaDoorSxB
import Derived.Orders
namespace Go.SX
open Go

/-! ## any order comes to what the textual order comes to -/
section
variable {P : Program} {ops : Array Oper} {md : Region.Mode}

def uponTo (P : Program) (C' : World → Prop) (v : Value) : Result Next → Prop
  | .ok (.value u) w' => C' w' ∧ u = v
  | .ok .skip w' => C' w' ∧ v = undef
  | .ok (.enter f args) w' => Calls P f args w' (fun e w'' => e = .returned v ∧ C' w'')
  | _ => False
theorem uponTo.mono {C C' : World → Prop} {v : Value} (h : ∀ w, C w → C' w) {r : Result Next} (hh : uponTo P C v r) : uponTo P C' v r := by
  unfold uponTo at hh ⊢
  split at hh
  · exact ⟨h _ hh.1, hh.2⟩
  · exact ⟨h _ hh.1, hh.2⟩
  · exact Calls.mono hh fun _ _ ⟨e, c⟩ => ⟨e, h _ c⟩
  · exact hh.elim

/-- 'o', from a world of C, yields v and leaves a world of C'; or it is not wanted -/
def ydTo (P : Program) (ops : Array Oper) (o : Oper) (C C' : World → Prop) (a : Act) (v : Value) : Prop :=
  (Region.wanted o (yielded ops a.tmps) = true ∧ ∀ w, C w → uponTo P C' v ((execOp a.eval o).run P w)) ∨
  (Region.wanted o (yielded ops a.tmps) = false ∧ v = undef ∧ ∀ w, C w → C' w)
/-- 'o' yields v whatever the world, and leaves it as it is -/
def ydAll (P : Program) (ops : Array Oper) (o : Oper) (a : Act) (v : Value) : Prop :=
  (Region.wanted o (yielded ops a.tmps) = true ∧ ∀ w, uponTo P (· = w) v ((execOp a.eval o).run P w)) ∨
  (Region.wanted o (yielded ops a.tmps) = false ∧ v = undef)
theorem ydAll.to {o : Oper} {C : World → Prop} {a : Act} {v : Value} (h : ydAll P ops o a v) : ydTo P ops o C C a v := by
  rcases h with ⟨h1, h2⟩ | ⟨h1, h2⟩
  · exact .inl ⟨h1, fun w hw => (h2 w).mono fun w' e => by subst e; exact hw⟩
  · exact .inr ⟨h1, h2, fun _ h => h⟩
theorem ydTo.same {o : Oper} {C C' : World → Prop} {a a' : Act} {v : Value} (h : ydTo P ops o C C' a v) (he : execOp a'.eval o = execOp a.eval o)
    (hw : Region.wanted o (yielded ops a'.tmps) = Region.wanted o (yielded ops a.tmps)) : ydTo P ops o C C' a' v := by
  unfold ydTo at *; rw [he, hw]; exact h
theorem ydAll.same {o : Oper} {a a' : Act} {v : Value} (h : ydAll P ops o a v) (he : execOp a'.eval o = execOp a.eval o)
    (hw : Region.wanted o (yielded ops a'.tmps) = Region.wanted o (yielded ops a.tmps)) : ydAll P ops o a' v := by
  unfold ydAll at *; rw [he, hw]; exact h

theorem wpOp_of_ydTo {i : Nat} {o : Oper} {C C' : World → Prop} {a : Act} {v : Value} {w : World} {K : Act → World → Prop} {Q : Exit → Act → World → Prop} (hi : ops[i]? = some o) (h : ydTo P ops o C C' a v) (hw : C w)
    (hK : ∀ w', C' w' → K (a.put o.dst v) w') : wpOp P ops Q i K a w := by
  unfold wpOp
  simp only [hi]
  rcases h with ⟨h1, h2⟩ | ⟨h1, h2, h3⟩
  · rw [if_pos h1]
    left
    have := h2 w hw
    unfold Oper.wp
    unfold uponTo at this
    split at this
    · rename_i u w' hr
      rw [hr, Oper.upon_value, this.2]; exact hK _ this.1
    · rename_i w' hr
      rw [hr, Oper.upon_skip, ← this.2]; exact hK _ this.1
    · rename_i f args w' hr
      rw [hr, Oper.upon_enter]
      exact this.mono fun e w2 ⟨he, hc⟩ => by subst he; exact hK _ hc
    · exact this.elim
  · rw [if_neg (by rw [h1]; simp)]
    subst h2
    exact hK _ (h3 w hw)

/-- what is asked of each operation that may come up; 'wl': it looks at no world -/
def opD (P : Program) (ops : Array Oper) (D : Array Bool → World → Prop) (wl : Nat → Bool) (i : Nat) (listed : Array Bool) (K : Act → Prop) (a : Act) : Prop :=
  ∃ o v, ops[i]? = some o ∧ (bif wl i then ydAll P ops o a v else ydTo P ops o (D listed) (D (listed.setIfInBounds i true)) a v) ∧ K (a.put o.dst v)
theorem opD_mono {D : Array Bool → World → Prop} {wl : Nat → Bool} {i : Nat} {listed : Array Bool} {K K' : Act → Prop} {a : Act} (h : opD P ops D wl i listed K a) (hk : ∀ a, K a → K' a) : opD P ops D wl i listed K' a := by
  obtain ⟨o, v, h1, h2, h3⟩ := h
  exact ⟨o, v, h1, h2, hk _ h3⟩

def wpAnyD (P : Program) (md : Region.Mode) (ops : Array Oper) (D : Array Bool → World → Prop) (wl : Nat → Bool) (Q : Act → World → Prop) : Nat → Array Bool → Act → Prop
  | 0, listed, a => Region.ready md ops listed = [] ∧ ∀ w, D listed w → Q a w
  | fuel + 1, listed, a =>
    (Region.ready md ops listed = [] → ∀ w, D listed w → Q a w) ∧
    ∀ i ∈ Region.ready md ops listed, opD P ops D wl i listed (wpAnyD P md ops D wl Q fuel (listed.setIfInBounds i true)) a

variable {D : Array Bool → World → Prop} {wr wl : Nat → Bool}

theorem wpAny_of_D (hD : ∀ i listed, wr i = false → D (listed.setIfInBounds i true) = D listed) (hwl : ∀ i, wl i = true → wr i = false) {Q : Act → World → Prop} {Q' : Exit → Act → World → Prop} (hQ : ∀ a w, Q a w → Q' .normal a w) :
    ∀ (fuel : Nat) (listed : Array Bool) (a : Act) (w : World), D listed w → wpAnyD P md ops D wl Q fuel listed a → wpAny P md ops Q' fuel listed a w
  | 0, _, _, _, hw, h => ⟨h.1, hQ _ _ (h.2 _ hw)⟩
  | fuel + 1, listed, a, w, hw, h => ⟨fun h0 => hQ _ _ (h.1 h0 _ hw), fun i hi => by
      obtain ⟨o, v, h1, h2, h3⟩ := h.2 i hi
      have : ydTo P ops o (D listed) (D (listed.setIfInBounds i true)) a v := by
        cases hl : wl i with
        | true => rw [hl] at h2; rw [hD i listed (hwl i hl)]; exact ydAll.to h2
        | false => rw [hl] at h2; exact h2
      exact wpOp_of_ydTo h1 this hw fun w' hw' => wpAny_of_D hD hwl hQ fuel _ _ _ hw' h3⟩

/-- 'j' cannot come up as long as 'i' has not -/
def waits (md : Region.Mode) (ops : Array Oper) (i : Nat) : Nat → Nat → Bool
  | 0, _ => false
  | f + 1, j => match ops[j]? with
    | some o => o.after.any fun e => Region.binds md e && (e.on == i || waits md ops i f e.on)
    | none => false
/-- what has been listed has all that it waits for listed -/
def dc (md : Region.Mode) (ops : Array Oper) (listed : Array Bool) : Prop := ∀ j o, ops[j]? = some o → listed.getD j false = true → ∀ e ∈ o.after, Region.binds md e = true → listed.getD e.on false = true
theorem waits_listed {listed : Array Bool} (hdc : dc md ops listed) {i : Nat} : ∀ (f j : Nat) (oj : Oper), ops[j]? = some oj → (∀ e ∈ oj.after, Region.binds md e = true → listed.getD e.on false = true) → waits md ops i f j = true → listed.getD i false = true
  | 0, _, _, _, _, h => by cases h
  | f + 1, j, oj, hj, ha, h => by
    simp only [waits, hj] at h
    obtain ⟨e, he, h⟩ := Array.any_eq_true'.1 h
    simp only [Bool.and_eq_true, Bool.or_eq_true, beq_iff_eq] at h
    obtain ⟨hb, h | h⟩ := h
    · rw [← h]; exact ha e he hb
    · have hl := ha e he hb
      cases ho : ops[e.on]? with
      | none => cases f with
        | zero => cases h
        | succ f => simp only [waits, ho] at h; cases h
      | some o => exact waits_listed hdc f e.on o ho (fun e' he' hb' => hdc e.on o ho hl e' he' hb') h
theorem dc_set {listed : Array Bool} (hdc : dc md ops listed) {j : Nat} (hj : j ∈ Region.ready md ops listed) (hs : listed.size = ops.size) : dc md ops (listed.setIfInBounds j true) := by
  obtain ⟨hun, oj, hoj, hall⟩ := mem_ready.1 hj
  have mono : ∀ k, listed.getD k false = true → (listed.setIfInBounds j true).getD k false = true := fun k hk => by
    by_cases hjk : j = k
    · subst hjk
      have hlt : j < listed.size := by rw [hs]; exact (Array.getElem?_eq_some_iff.1 hoj).1
      simp [hlt]
    · rw [getD_set_ne false hjk]; exact hk
  intro k o hk hl e he hb
  by_cases hjk : j = k
  · subst hjk
    rw [hoj] at hk; cases hk
    exact mono _ (hall e he hb)
  · rw [getD_set_ne false hjk] at hl
    exact mono _ (hdc k o hk hl e he hb)

theorem wpAnyD_first (hD : ∀ i listed, wr i = false → D (listed.setIfInBounds i true) = D listed) (hwl : ∀ i, wl i = true → wr i = false) (hsel : ∀ (j : Nat) (o : Oper) cs b, ops[j]? = some o → o.op ≠ .select cs b)
    {Q : Act → World → Prop} {i : Nat} {oi : Oper} {v : Value} (hi : ops[i]? = some oi) :
    ∀ (fuel : Nat) (listed : Array Bool) (a : Act), dc md ops listed → listed.size = ops.size →
      (∀ j oj, ops[j]? = some oj → j ≠ i → listed.getD j true = false → waits md ops i 3 j = false → oi.apart ops oj = true ∧ (wl i = true ∨ wl j = true ∨ (wr i = false ∧ wr j = false))) →
      i ∈ Region.ready md ops listed → (bif wl i then ydAll P ops oi a v else ydTo P ops oi (D listed) (D (listed.setIfInBounds i true)) a v) →
      wpAnyD P md ops D wl Q fuel (listed.setIfInBounds i true) (a.put oi.dst v) → wpAnyD P md ops D wl Q (fuel + 1) listed a := by
  intro fuel
  induction fuel with
  | zero =>
    intro listed a _ _ _ hr hy H
    refine ⟨fun h => (by rw [h] at hr; cases hr), fun j hj => ?_⟩
    by_cases hji : j = i
    · subst hji; exact ⟨oi, v, hi, hy, H⟩
    · have := ready_mono hj hji
      rw [H.1] at this
      cases this
  | succ fuel ih =>
    intro listed a hdc hsz hfree hr hy H
    refine ⟨fun h => (by rw [h] at hr; cases hr), fun j hj => ?_⟩
    by_cases hji : j = i
    · subst hji; exact ⟨oi, v, hi, hy, H⟩
    · obtain ⟨oj, u, hoj, hyj, hK⟩ := H.2 j (ready_mono hj hji)
      obtain ⟨hjun, oj', hoj', hall⟩ := mem_ready.1 hj
      rw [hoj] at hoj'; cases hoj'
      have hnot : waits md ops i 3 j = false := by
        cases hwt : waits md ops i 3 j with
        | false => rfl
        | true =>
          have h1 := waits_listed hdc 3 j oj hoj (fun e he hb => hall e he hb) hwt
          have h0 := (mem_ready.1 hr).1
          have hlt : i < listed.size := by rw [hsz]; exact (Array.getElem?_eq_some_iff.1 hi).1
          simp [hlt] at h0 h1; rw [h0] at h1; cases h1
      obtain ⟨hap, hcl⟩ := hfree j oj hoj hji hjun hnot
      obtain ⟨p1, p2, p3⟩ := Oper.apart_spec hap
      have hsi : ∀ cs b, oi.op ≠ .select cs b := fun cs b => hsel i oi cs b hi
      have hsj : ∀ cs b, oj.op ≠ .select cs b := fun cs b => hsel j oj cs b hoj
      have ej := execOp_put oj hsj a oi.dst v p1
      have wj := wanted_put (ops := ops) oj a oi.dst v p1
      have ei := execOp_put oi hsi a oj.dst u p3
      have wi := wanted_put (ops := ops) oi a oj.dst u p3
      have hcomm : (listed.setIfInBounds j true).setIfInBounds i true = (listed.setIfInBounds i true).setIfInBounds j true := Array.setIfInBounds_comm _ _ hji
      have hyj' : bif wl j then ydAll P ops oj a u else ydTo P ops oj (D listed) (D (listed.setIfInBounds j true)) a u := by
        cases hlj : wl j with
        | true => rw [hlj] at hyj; exact ydAll.same hyj ej.symm wj.symm
        | false =>
          rw [hlj] at hyj
          have hri : wr i = false := by
            rcases hcl with h | h | h
            · exact hwl i h
            · rw [hlj] at h; cases h
            · exact h.1
          have := ydTo.same hyj ej.symm wj.symm
          rw [hD i listed hri, ← hcomm, hD i _ hri] at this
          exact this
      have hyi' : bif wl i then ydAll P ops oi (a.put oj.dst u) v else ydTo P ops oi (D (listed.setIfInBounds j true)) (D ((listed.setIfInBounds j true).setIfInBounds i true)) (a.put oj.dst u) v := by
        cases hli : wl i with
        | true => rw [hli] at hy; exact ydAll.same hy ei wi
        | false =>
          rw [hli] at hy
          have hrj : wr j = false := by
            rcases hcl with h | h | h
            · rw [hli] at h; cases h
            · exact hwl j h
            · exact h.2
          have := ydTo.same hy ei wi
          rw [hD j listed hrj, hcomm, hD j _ hrj]
          exact this
      refine ⟨oj, u, hoj, hyj', ?_⟩
      have hfree' : ∀ k ok, ops[k]? = some ok → k ≠ i → (listed.setIfInBounds j true).getD k true = false →
          waits md ops i 3 k = false → oi.apart ops ok = true ∧ (wl i = true ∨ wl k = true ∨ (wr i = false ∧ wr k = false)) := fun k ok hk hki hun hno => by
        refine hfree k ok hk hki ?_ hno
        by_cases hjk : j = k
        · subst hjk; exact hjun
        · rw [getD_set_ne true hjk] at hun; exact hun
      refine ih (listed.setIfInBounds j true) _ (dc_set hdc hj hsz) (by simp [hsz]) hfree' (ready_mono hr (Ne.symm hji)) hyi' ?_
      rw [hcomm, ← Act.put_comm a v u p2]
      exact hK

/-- what the walk in textual order asks; c: the worlds ahead of each operation -/
def wpLex (P : Program) (ops : Array Oper) (c : Nat → World → Prop) (wl wr : Nat → Bool) (Q : Act → World → Prop) : Nat → List Oper → Act → Prop
  | k, [], a => ∀ w, c k w → Q a w
  | k, o :: l, a => ∃ v, (bif wl k then ydAll P ops o a v else ydTo P ops o (c k) (c (k + 1)) a v) ∧ (wr k = false → c (k + 1) = c k) ∧ wpLex P ops c wl wr Q (k + 1) l (a.put o.dst v)
theorem wpLex_congr {c c' : Nat → World → Prop} {Q : Act → World → Prop} : ∀ {l : List Oper} {k : Nat} {a : Act}, (∀ j, k ≤ j → c j = c' j) → wpLex P ops c wl wr Q k l a → wpLex P ops c' wl wr Q k l a
  | [], k, a, hc, h => fun w hw => h w (by rw [hc k (Nat.le_refl _)]; exact hw)
  | o :: l, k, a, hc, h => by
    obtain ⟨v, h1, h2, h3⟩ := h
    refine ⟨v, ?_, ?_, wpLex_congr (fun j hj => hc j (by omega)) h3⟩
    · rw [← hc k (Nat.le_refl _), ← hc (k + 1) (by omega)]; exact h1
    · rw [← hc k (Nat.le_refl _), ← hc (k + 1) (by omega)]; exact h2

/-- the last writer that has been listed -/
def lastW (wr : Nat → Bool) (listed : Array Bool) : Nat → Nat
  | 0 => 0
  | n + 1 => bif wr n && listed.getD n false then n + 1 else lastW wr listed n
theorem lastW_other {i : Nat} (h : wr i = false) (listed : Array Bool) : ∀ n, lastW wr (listed.setIfInBounds i true) n = lastW wr listed n
  | 0 => rfl
  | n + 1 => by
    simp only [lastW, lastW_other h listed n]
    by_cases hin : i = n
    · subst hin; simp [h]
    · rw [getD_set_ne false hin]

def firsts (k n : Nat) : Array Bool := ((List.range n).map fun j => decide (j < k)).toArray
theorem firsts_get (k n j : Nat) (d : Bool) : (firsts k n).getD j d = if j < n then decide (j < k) else d := by
  simp only [firsts, Array.getD_eq_getD_getElem?, List.getElem?_toArray, List.getElem?_map]
  by_cases h : j < n
  · simp [h]
  · simp [h]
theorem firsts_size (k n : Nat) : (firsts k n).size = n := by simp [firsts]
theorem firsts_set (k n : Nat) : (firsts k n).setIfInBounds k true = firsts (k + 1) n := by
  apply Array.ext
  · simp [firsts]
  · intro j h1 h2
    have h3 : j < (firsts k n).size := by simpa using h1
    rw [Array.getElem_setIfInBounds h3]
    simp only [firsts, List.getElem_toArray, List.getElem_map, List.getElem_range]
    by_cases h : k = j
    · simp [h]
    · simp only [h, if_false]
      have : (j < k) = (j < k + 1) := by apply propext; constructor <;> omega
      simp [this]
theorem firsts_zero (n : Nat) : firsts 0 n = Array.replicate n false := by
  apply Array.ext
  · simp [firsts]
  · intro j h1 h2; simp [firsts]

/-- the textual order may be walked: each operation is ready at its turn, and what might come up ahead of it is apart from it -/
def pairOk (md : Region.Mode) (ops : Array Oper) (wl wr : Nat → Bool) (i : Nat) (oi : Oper) (j : Nat) (oj : Oper) : Bool :=
  (oi.apart ops oj && (wl i || wl j || (!wr i && !wr j))) || waits md ops i 3 j
def freeAt (md : Region.Mode) (ops : Array Oper) (wl wr : Nat → Bool) (i : Nat) : Bool :=
  match ops[i]? with
  | none => false
  | some oi => (List.range ops.size).all fun j => decide (j ≤ i) || match ops[j]? with
      | some oj => pairOk md ops wl wr i oi j oj
      | none => true
def readyAt (md : Region.Mode) (ops : Array Oper) (i : Nat) : Bool :=
  match ops[i]? with
  | none => false
  | some oi => oi.after.all fun e => !Region.binds md e || decide (e.on < i)
def lexOk (md : Region.Mode) (ops : Array Oper) (wl wr : Nat → Bool) : Bool :=
  Region.noSelect ops && (List.range ops.size).all fun i => (readyAt md ops i && freeAt md ops wl wr i) && (!wl i || !wr i)

theorem freeAt_spec {i : Nat} {oi : Oper} (hi : ops[i]? = some oi) (h : freeAt md ops wl wr i = true) (j : Nat) (oj : Oper) (hj : ops[j]? = some oj) (hne : i < j)
    (hno : waits md ops i 3 j = false) : oi.apart ops oj = true ∧ (wl i = true ∨ wl j = true ∨ (wr i = false ∧ wr j = false)) := by
  simp only [freeAt, hi, List.all_eq_true, List.mem_range] at h
  have h1 := h j (Array.getElem?_eq_some_iff.1 hj).1
  have hni : ¬ j ≤ i := by omega
  simp only [hj, hni, decide_false, Bool.false_or, pairOk, hno, Bool.or_false, Bool.or_eq_true, Bool.and_eq_true, Bool.not_eq_true'] at h1
  obtain ⟨h1, h2⟩ := h1
  refine ⟨h1, ?_⟩
  rcases h2 with (h2 | h2) | h2
  · exact .inl h2
  · exact .inr (.inl h2)
  · exact .inr (.inr h2)

theorem ready_firsts {i : Nat} {oi : Oper} (hi : ops[i]? = some oi) (h : readyAt md ops i = true) : i ∈ Region.ready md ops (firsts i ops.size) := by
  have hlt := (Array.getElem?_eq_some_iff.1 hi).1
  refine mem_ready.2 ⟨by rw [firsts_get]; simp [hlt], oi, hi, fun e he hb => ?_⟩
  simp only [readyAt, hi, Array.all_eq_true'] at h
  have := h e he
  simp only [hb, Bool.not_true, Bool.false_or, decide_eq_true_eq] at this
  rw [firsts_get]
  simp [this]; omega

theorem lexOk_at (h : lexOk md ops wl wr = true) {i : Nat} (hi : i < ops.size) : readyAt md ops i = true ∧ freeAt md ops wl wr i = true ∧ (wl i = true → wr i = false) := by
  simp only [lexOk, Bool.and_eq_true, List.all_eq_true, List.mem_range] at h
  obtain ⟨⟨h1, h2⟩, h3⟩ := h.2 i hi
  refine ⟨h1, h2, fun hw => ?_⟩
  simpa [hw] using h3

/-- the worlds once these have been listed -/
def clsOf (wr : Nat → Bool) (n : Nat) (c : Nat → World → Prop) (listed : Array Bool) : World → Prop := c (lastW wr listed n)

theorem lastW_firsts (k n : Nat) (hk : k ≤ n) : ∀ m, lastW wr (firsts k n) m = lastW wr (firsts k n) (min m k)
  | 0 => by simp
  | m + 1 => by
    by_cases h : m + 1 ≤ k
    · rw [Nat.min_eq_left h]
    · have e1 : min (m + 1) k = min m k := by omega
      rw [e1, ← lastW_firsts k n hk m]
      simp only [lastW, firsts_get]
      have : ¬ m < k := by omega
      simp [this]

theorem wpAnyD_lex (hs : Region.noSelect ops = true) {c : Nat → World → Prop} {Q : Act → World → Prop} (hB : lexOk md ops wl wr = true) (hwl : ∀ i, wl i = true → wr i = false) :
    ∀ (l : List Oper) (k : Nat) (a : Act), (∀ j, l[j]? = ops[k + j]?) → k + l.length = ops.size → clsOf wr ops.size c (firsts k ops.size) = c k → wpLex P ops c wl wr Q k l a →
      wpAnyD P md ops (clsOf wr ops.size c) wl Q l.length (firsts k ops.size) a
  | [], k, a, _, hk, hc, h => by
    refine ⟨?_, fun w hw => h w (by rw [← hc]; exact hw)⟩
    rw [List.eq_nil_iff_forall_not_mem]
    intro i hi
    obtain ⟨h1, o, h2, _⟩ := mem_ready.1 hi
    have := (Array.getElem?_eq_some_iff.1 h2).1
    rw [firsts_get] at h1
    simp at hk
    simp [this] at h1; omega
  | o :: l, k, a, hl, hk, hc, h => by
    have h0 : ops[k]? = some o := by simpa using (hl 0).symm
    have hlt : k < ops.size := (Array.getElem?_eq_some_iff.1 h0).1
    obtain ⟨hr, hf, _⟩ := lexOk_at hB hlt
    obtain ⟨v, hy, hkeep, hn⟩ := h
    have hc' : clsOf wr ops.size c (firsts (k + 1) ops.size) = c (k + 1) := by
      unfold clsOf at hc ⊢
      rw [lastW_firsts k _ (by omega), Nat.min_eq_right (by omega)] at hc
      rw [lastW_firsts (k + 1) _ (by omega), Nat.min_eq_right (by omega)]
      simp only [lastW, firsts_get]
      have : lastW wr (firsts (k + 1) ops.size) k = lastW wr (firsts k ops.size) k := by
        rw [← firsts_set]
        have gen : ∀ m, m ≤ k → lastW wr ((firsts k ops.size).setIfInBounds k true) m = lastW wr (firsts k ops.size) m := by
          intro m
          induction m with
          | zero => intro _; rfl
          | succ m ih => intro hm; simp only [lastW]; rw [ih (by omega), getD_set_ne false (by omega)]
        exact gen k (Nat.le_refl _)
      rw [this]
      cases hw : wr k with
      | true => simp [hlt]
      | false => simp only [Bool.false_and, cond_false]; rw [hc, hkeep hw]
    refine wpAnyD_first (wr := wr) (fun i listed h => by unfold clsOf; rw [lastW_other h]) hwl (Region.noSelect_spec hs) h0 l.length (firsts k ops.size) a ?_ (firsts_size _ _) ?_ (ready_firsts h0 hr) ?_ ?_ (v := v)
    · intro j o' hj hl' e he hb
      have hjl := (Array.getElem?_eq_some_iff.1 hj).1
      rw [firsts_get] at hl'
      simp [hjl] at hl'
      have hrj := (lexOk_at hB hjl).1
      simp only [readyAt, hj, Array.all_eq_true'] at hrj
      have := hrj e he
      simp only [hb, Bool.not_true, Bool.false_or, decide_eq_true_eq] at this
      rw [firsts_get]
      have h1 : e.on < ops.size := by omega
      have h2 : e.on < k := by omega
      simp [h1, h2]
    · intro j oj hj hne hun hno
      refine freeAt_spec h0 hf j oj hj ?_ hno
      have hjl := (Array.getElem?_eq_some_iff.1 hj).1
      rw [firsts_get] at hun
      simp [hjl] at hun
      omega
    · rw [firsts_set, hc, hc']; exact hy
    · rw [firsts_set]
      exact wpAnyD_lex hs hB hwl l (k + 1) _ (fun j => by have := hl (j + 1); simpa [Nat.add_assoc, Nat.add_comm 1 j] using this) (by simp at hk; omega) hc' hn

theorem wp_region_lex {id : Nat} {Q : Act → World → Prop} {Q' : Exit → Act → World → Prop} {a : Act} {w : World} {c : Nat → World → Prop} (hm : P.follows .mixedOrders = true) (hB : lexOk .any ops wl wr = true)
    (hwl : ∀ i, wl i = true → wr i = false) (hQ : ∀ a w, Q a w → Q' .normal a w) (hC : c 0 { w with drawn := w.drawn + 1 }) (h : wpLex P ops c wl wr Q 0 ops.toList a) : (Code.region id ops true).wp P Q' a w := by
  have hs : Region.noSelect ops = true := by simp only [lexOk, Bool.and_eq_true] at hB; exact hB.1
  have h0 : clsOf wr ops.size c (firsts 0 ops.size) = c 0 := by
    unfold clsOf
    rw [lastW_firsts 0 _ (by omega), Nat.min_eq_right (by omega)]; rfl
  refine wp_region_any hm (wpAny_of_D (D := clsOf wr ops.size c) (wr := wr) (wl := wl) (fun i listed h => by unfold clsOf; rw [lastW_other h]) hwl hQ _ _ _ _ ?_ ?_)
  · rw [← firsts_zero, h0]; exact hC
  · have := wpAnyD_lex (md := .any) hs hB hwl ops.toList 0 a (by simp) (by simp) h0 h
    rw [← firsts_zero]
    simpa using this
end
end Go.SX
