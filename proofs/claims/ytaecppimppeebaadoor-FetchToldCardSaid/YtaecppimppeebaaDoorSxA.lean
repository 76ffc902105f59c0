/- A small layer for proofs about calls, part 10: one operation, a region, code, a call. -/
import Derived.Test.YtaecppimppeebaaDoorSx9
import Derived.Laws.IdiomStrings
import Derived.Laws.MakeOwn
namespace Go.SX
open Go

theorem src_slice {P : Program} {w : World} {A : Option Addr} {m c z : Nat} {vs : List Value} (hl : vs.length = m * z) (hc : ∀ a, A = some a → ∀ (j : Nat) (u : Value), vs[j]? = some u → w.cell? (a.add j) = some u) (hA : A = none → vs = []) :
    Src P w (.slice A m c) z m vs := by
  refine ⟨fun W => by simp [Builtin.lenOf], fun W hW => ?_⟩
  cases A with
  | none => rw [hA rfl]; simp [Builtin.firstCells]
  | some a => exact run_firstCells_some (P := P) W z m a m c vs hl (fun j u hj => by rw [hW]; exact hc a rfl j u hj)

theorem newsOf_sound {P : Program} {M : List Res} {Z : Heap} {x : SV} {z : Nat} {k : Nat → List Value → Prop} (h : newsOf M Z x z k) :
    ∃ m vs, k m vs ∧ vs.length = m * z ∧ ∀ (E : Env) (w : World) (v : Value), Mem E M Z w → has M x v → Src P w v z m vs := by
  unfold newsOf newsS newsR newsV at h
  split at h
  · rename_i j off m c
    split at h
    · rename_i b cs ty hj
      split at h
      · rename_i vs hvs
        refine ⟨m, vs, h.2, h.1, fun E w v hm hv => ?_⟩
        simp only [has, den, hj, Option.bind_some, Res.slAt, Option.some.injEq] at hv
        subst hv
        have hcs := mapM_val hvs
        refine src_slice h.1 (fun a ha i u hi => ?_) (fun hA => by cases hA)
        cases ha
        rw [lit_add]
        have hil : i < vs.length := (List.getElem?_eq_some_iff.1 hi).1
        have h2 : ((cs.drop off).take (m * z))[i]? = some (.val u) := by rw [hcs, List.getElem?_map, hi]; rfl
        rw [List.getElem?_take, if_pos (by rw [← h.1]; exact hil), List.getElem?_drop] at h2
        obtain ⟨y, hy, hh⟩ := hm.cell hj h2
        simp only [has] at hh
        subst hh
        exact hy
      · exact h.elim
    · rename_i b xs ty fr hj
      refine ⟨m, _, h.2, by simp; omega, fun E w v hm hv => ?_⟩
      simp only [has, den, hj, Option.bind_some, Res.slAt, Option.some.injEq] at hv
      subst hv
      have hown : w.heap[b]? = some (.cells xs.toArray ty fr) := hm.own j _ hj
      refine src_slice (by simp; omega) (fun a ha i u hi => ?_) (fun hA => by cases hA)
      cases ha
      rw [lit_add]
      rw [List.getElem?_take] at hi
      split at hi
      · rw [List.getElem?_drop] at hi
        simp [World.cell?, hown, hi]
      · cases hi
    · exact h.elim
  · rename_i A m c
    obtain ⟨vs, h1, h2, h3⟩ := h
    refine ⟨m, vs, h3, h1, fun E w v hm hv => ?_⟩
    simp only [has] at hv
    subst hv
    refine src_slice h1 (fun a ha i u hi => ?_) (fun hA => ?_)
    · subst ha
      have := h2 i u hi
      rw [Nat.zero_add] at this
      exact hm.frozen.cell this
    · subst hA
      cases vs with
      | nil => rfl
      | cons u us => have := h2 0 u rfl; simp [rd] at this
  · rename_i st
    refine ⟨st.size, _, h.2, by simp [h.1], fun E w v hm hv => ?_⟩
    simp only [has] at hv
    subst hv
    obtain ⟨rfl, _⟩ := h
    refine ⟨fun W => by simp [Builtin.lenOf], fun W _ => ?_⟩
    have e : st.extract 0 st.size = st := by
      apply ByteArray.ext
      simp
    simp only [Builtin.firstCells, e, Sem.run_pure]
    congr 1
    apply Array.ext'
    simp [byteV]
  · rename_i j
    split at h
    · rename_i A cap e z' m xs hj
      refine ⟨m, xs, h.2, h.1, fun E w v hm hv => ?_⟩
      have ho : w.ownsRow 0 e z' (.slice A m cap) m xs := hm.own j _ hj
      simp only [has, den, hj, Option.bind_some, Res.rowVal, Option.some.injEq] at hv
      subst hv
      refine src_slice h.1 (fun a ha i u hi => ?_) (fun hA => ?_)
      · subst ha
        obtain ⟨g2, cap2, he2, hc2, _⟩ := row_cell ho hi
        cases he2
        rw [lit_add]; simpa using hc2
      · subst hA
        cases xs with
        | nil => rfl
        | cons u us =>
          obtain ⟨g2, cap2, he2, _⟩ := row_cell ho (j := 0) (u := u) rfl
          cases he2
    · exact h.elim
  · exact h.elim

theorem row_form {w : World} {e : TypeId} {z n : Nat} {v : Value} {xs : List Value} (h : w.ownsRow 0 e z v n xs) : ∃ A cap, v = .slice A n cap ∧ v.ownBlock = A.map (·.block) := by
  obtain ⟨_, ⟨rfl, rfl⟩ | ⟨g, cap, cur, rfl, _⟩⟩ := h
  · exact ⟨none, 0, rfl, rfl⟩
  · exact ⟨some ⟨g, 0, none⟩, cap, rfl, rfl⟩

theorem vcAppend_sound {P : Program} {N : Nat} {dst : Option Nat} {t t' ty : TypeId} {x y : SV} {s : SS} {K : SS → Prop} (h : vcAppend P N dst t t' x y s K) {E : Env} {a : Act} {w : World} (hr : Rel E N s a w)
    {u v : Value} (hx : has s.M x u) (hy : has s.M y v) : ∃ v' w', (Builtin.append_ #[t, t'] ty #[u, v]).run P w = .ok v' w' ∧ ∃ s', Rel E N s' (a.put dst v') w' ∧ K s' := by
  obtain ⟨hu, h⟩ := h
  unfold vcAppT vcAppE at h
  split at h
  · rename_i e ht
    split at h
    · rename_i z by_ zc hz hb hzc
      obtain ⟨hzl, hz0, h⟩ := h
      simp only [sizeT, Option.map_eq_some_iff] at hz
      obtain ⟨i, hi, hzi⟩ := hz
      have hbi : i.bytes = by_ := by simpa [bytesT, hi] using hb
      simp only [zeroT, hi, Option.bind_some, Option.map_eq_some_iff] at hzc
      obtain ⟨zv, hzv, hzc⟩ := hzc
      have hzs : zv.cells.size = z := by rw [← hzl, ← hzc]; simp
      unfold vcAppX vcAppR at h
      split at h
      · rename_i r
        split at h
        · rename_i A0 cap0 e' z' n xs hir
          obtain ⟨rfl, rfl, h⟩ := h
          obtain ⟨m, vs, ⟨h1', h2, h3, h4⟩, hl, hsrc⟩ := newsOf_sound (P := P) h
          have h1 := oneVals_mem h1'
          have ho : w.ownsRow 0 e' z' (.slice A0 n cap0) n xs := hr.mem.own r _ hir
          simp only [has, den, hir, Option.bind_some, Res.rowVal, Option.some.injEq] at hx
          subst hx
          obtain ⟨v', w', hrun, hown', hkept, hblk⟩ := run_append_src (P := P) (ty := ty) w ht hu hi hzv hzi hbi hzs hz0 ho (hsrc E w v hr.mem hy) hl h1 h2 h3
          obtain ⟨A', cap', rfl, hob⟩ := row_form hown'
          refine ⟨_, w', hrun, ?_⟩
          have hkey : ∀ c, (Res.row A0 cap0 e' z' n xs).key = some c ↔ (Value.slice A0 n cap0).ownBlock = some c := by
            intro c; cases A0 <;> simp [Res.key, Value.ownBlock]
          have hm := hr.mem.regrow (r' := .row A' cap' e' z' (n + m) (xs ++ vs)) hir ⟨hkept.os, hkept.tape, hkept.output, hkept.size, fun b hb hn => hkept.block b hb (fun e => hn ((hkey b).2 e))⟩ (fun c hc => by
            have hc' : A'.map (·.block) = some c := hc
            rw [← hob] at hc'
            rcases hblk with e1 | e1
            · rw [e1] at hc'; exact .inl ((hkey c).2 hc')
            · rw [e1] at hc'; cases hc'; exact .inr (Nat.le_refl _)) hown'
          have h4' := h4 A' cap'
          rw [killL_eq] at h4'
          refine rel_put (hr.frame.map (kill r) (kill_any r) (fun s x => has_killM)) hr.defers hm ?_ h4'
          have hlt : r < s.M.length := (List.getElem?_eq_some_iff.1 hir).1
          simp [has, den, hlt, Res.rowVal]
        · exact h.elim
      · obtain ⟨m, vs, ⟨h1', h2, h3, h4⟩, hl, hsrc⟩ := newsOf_sound (P := P) h
        have h1 := oneVals_mem h1'
        simp only [has] at hx
        subst hx
        obtain ⟨v', w', hrun, hown', hkept, hblk⟩ := run_append_src (P := P) (ty := ty) w ht hu hi hzv hzi hbi hzs hz0 (World.ownsRow_nil w 0 e z) (hsrc E w v hr.mem hy) hl h1 (by simpa using h2) (by simpa using h3)
        simp only [Nat.zero_add, List.nil_append] at hown'
        obtain ⟨A', cap', rfl, hob⟩ := row_form hown'
        refine ⟨_, w', hrun, ?_⟩
        have hm := hr.mem.add (r := .row A' cap' e z m vs) (w' := w') ⟨hkept.os, hkept.tape, hkept.output, hkept.size, fun b hb _ => hkept.block b hb (by simp [Value.ownBlock])⟩ (fun c hc => by
            have hc' : A'.map (·.block) = some c := hc
            rw [← hob] at hc'
            rcases hblk with e1 | e1
            · rw [e1] at hc'; simp [Value.ownBlock] at hc'
            · rw [e1] at hc'; cases hc'; exact Nat.le_refl _) hown'
        refine rel_put (hr.frame.mono (Grows.append s.M _).places.has_) hr.defers hm ?_ (h4 A' cap')
        simp [has, den, Res.rowVal]
      · exact h.elim
    · exact h.elim
  · exact h.elim

theorem run_callFunc' {P : Program} {g : FuncId} {fn : Func} (hf : P.funcs[g]? = some fn) (hn : (fn.name == "runtime.NumGoroutine") = false) (hb : fn.body.isNone = false) (args : Array Value) (w : World) :
    (callFunc g args).run P w = .ok (.enter g args) w := by
  have hp : (program).run P w = .ok P w := rfl
  unfold callFunc
  simp only [Sem.run_bind, hp, Result.andThen_ok, hf, hn, hb]
  rfl

theorem callee_run {P : Program} {o : Oper} {f : Operand} {args : Array Operand} {tys : Array TypeId} (he : o.op = .call ⟨.value f, args, tys⟩) {g : FuncId} {cap : List Value} {a : Act}
    (hf : a.eval f = .func (.func g) #[] cap.toArray) (w : World) : (execOp a.eval o).run P w = (callFunc g (args.map a.eval ++ cap.toArray)).run P w := by
  simp [execOp, he, resolve, hf, Deferred.ofValue, invoke]

theorem vcCallG_sound {P : Program} {N : Nat} {o : Oper} {s : SS} {K : SS → Prop} {f : Operand} {args : Array Operand} {tys : Array TypeId} (he : o.op = .call ⟨.value f, args, tys⟩) {g : FuncId} {cap : List Value} {xs : List SV}
    (h : vcCallG P N o.dst g xs s K (extOf P g)) {E : Env} {a : Act} {w : World} (hr : Rel E N s a w) (hf : a.eval f = .func (.func g) #[] cap.toArray) (hx : denL s.M xs = some (args.toList.map a.eval ++ cap)) :
    o.wp P a w (fun a' w' => ∃ s', Rel E N s' a' w' ∧ K s') (fun _ _ _ => False) := by
  have e : (List.map a.eval args.toList ++ cap).toArray = args.map a.eval ++ cap.toArray := by apply Array.ext'; simp
  unfold vcCallG at h
  split at h
  · rename_i ex hex
    obtain ⟨vs, x, h1, h2, h3⟩ := extK_sound h
    rw [hx] at h1; cases h1
    have : (execOp a.eval o).run P w = .ok (.value x) w := by
      rw [callee_run he hf, extOf_run hex, ← e, h2]; rfl
    rw [Oper.wp, this, Oper.upon_value]
    exact rel_put (K := K) hr.frame hr.defers hr.mem (d := o.dst) (x := .val x) rfl h3
  · obtain ⟨⟨fn, hfn, hbody, hname⟩, h⟩ := h
    have hb : fn.body.isNone = false := by cases hb : fn.body <;> simp_all
    have : (execOp a.eval o).run P w = .ok (.enter g (args.map a.eval ++ cap.toArray)) w := by
      rw [callee_run he hf, run_callFunc' hfn hname hb]
    rw [Oper.wp, this, Oper.upon_enter]
    have hc := h E a w hr _ hx
    rw [e] at hc
    exact hc.mono fun e w' ⟨v, he', s', h1, h2⟩ => by subst he'; exact ⟨s', h1, h2⟩

/-- an operation that makes one block and no more -/
def vcGrowO (P : Program) (N : Nat) (o : Oper) (s : SS) (K : SS → Prop) (op : Op) : Prop :=
  match op with
  | .alloc e => vcAlloc N o.dst e s K (zeroT P e)
  | .box e x => (ev s.F x).grd ∧ vcBoxC N o.dst e s K (ev s.F x).core.cellsOf
  | .buildSlice t len parts => vcSlT P N o.dst len parts.toList s K (P.underlying t)
  | .makeMap _ none => vcMap N o.dst s K
  | .convert t d x => (ev s.F x).grd ∧ vcBytesT P N o.dst s K (ev s.F x).core (P.underlying t) (P.underlying d)
  | .makeSlice t n c => ((ev s.F n).grd ∧ (ev s.F c).grd) ∧ vcMakeT P N o.dst (ev s.F n).core (ev s.F c).core s K (P.underlying t)
  | _ => False
theorem kept_alloc (w : World) (ob : Obj) : Kept w (fun _ => False) (w.alloc ob) := ⟨rfl, rfl, rfl, by rw [heap_alloc_size]; omega, fun _ hb _ => heap_alloc_lt hb⟩
theorem vcGrowO_sound {P : Program} {N : Nat} {o : Oper} {s : SS} {K : SS → Prop} (h : vcGrowO P N o s K o.op) {E : Env} {a : Act} {w : World} (hr : Rel E N s a w) :
    ∃ v w', (execOp a.eval o).run P w = .ok (.value v) w' ∧ Kept w (fun _ => False) w' ∧ ∃ s', Rel E N s' (a.put o.dst v) w' ∧ K s' := by
  unfold vcGrowO at h
  split at h
  · rename_i e he
    unfold vcAlloc at h
    split at h
    · rename_i z hz
      obtain ⟨v, hv, hrun⟩ := zero_run hz
      obtain ⟨s', h1, h2⟩ := vcNew_sound (vs := v.cells) (v := .pointer (some ⟨w.heap.size, 0, none⟩)) h hr (by rw [hv]; simpa using denL_vals z) (fun M hM => by simp [has, den, hM, Res.ptrAt])
      have : (execOp a.eval o).run P w = .ok (.value (.pointer (some ⟨w.heap.size, 0, none⟩))) (w.alloc (.cells v.cells e)) := by
        simp only [execOp, he, Instr.alloc, Sem.run_bind, hrun, Result.andThen_ok, newVar, newRow]
        rfl
      exact ⟨_, _, this, kept_alloc _ _, s', h1, h2⟩
    · exact h.elim
  · rename_i e x he
    obtain ⟨hg, h⟩ := h
    unfold vcBoxC at h
    split at h
    · rename_i cs hcs
      have hx := has_core (ev_has hr.frame x) hg
      obtain ⟨s', h1, h2⟩ := vcNew_sound (vs := (a.eval x).cells) (v := .pointer (some ⟨w.heap.size, 0, none⟩)) h hr (cells_of_has hcs hx) (fun M hM => by simp [has, den, hM, Res.ptrAt])
      have : (execOp a.eval o).run P w = .ok (.value (.pointer (some ⟨w.heap.size, 0, none⟩))) (w.alloc (.cells (a.eval x).cells e)) := by
        simp only [execOp, he, Instr.box, Sem.run_bind, newVar, newRow]
        rfl
      exact ⟨_, _, this, kept_alloc _ _, s', h1, h2⟩
    · exact h.elim
  · rename_i t len parts he
    unfold vcSlT vcSlZ vcSlC at h
    split at h
    · rename_i e ht
      split at h
      · rename_i z zc hz hzc
        obtain ⟨h24, hzl, hz0, hg', h⟩ := h
        have hg : ∀ p ∈ parts.toList, (ev s.F p.2).grd := grdParts_mem hg'
        rw [partsOf_eq] at h
        unfold placesIn zerosOf at h
        split at h
        · rename_i cs hf
          obtain ⟨zv, hzv, hzrun⟩ := zero_run hzc
          have hcells : ((List.range (len * z)).map fun i => SV.val (zc.getD (i % z) undef)) = ((Array.range (len * z)).map fun i => zv.cells[i % zv.cells.size]!).toList.map .val := by
            simp only [Array.toList_map, Array.toList_range, List.map_map]
            apply List.map_congr_left
            intro i _
            simp only [Function.comp_apply, SV.val.injEq]
            have e1 : zv.cells.size = z := by rw [hzv]; simpa using hzl
            have hlt : i % z < z := Nat.mod_lt _ hz0
            rw [e1, hzv]
            rw [List.getD_eq_getElem?_getD, getElem!_def]
            simp [hzl, hlt]
          rw [hcells] at hf
          obtain ⟨out, ho, hd⟩ := fillS_sound (M := s.M) (vals := (parts.map fun p => (p.1, a.eval p.2)).toList) (cells := (Array.range (len * z)).map fun i => zv.cells[i % zv.cells.size]!) hf (denL_vals _) (by simp) (by
            intro j p q hp' hq
            simp only [Array.toList_map, List.getElem?_map, Option.map_eq_some_iff] at hp' hq
            obtain ⟨p0, hp0, rfl⟩ := hp'
            obtain ⟨q0, hq0, rfl⟩ := hq
            rw [hp0] at hq0; cases hq0
            exact ⟨rfl, has_core (ev_has hr.frame p0.2) (hg p0 (List.mem_of_getElem? hp0))⟩)
          have hfill : ∀ (l : List (Nat × Value)) (cells out : Array Value), Instr.fill (((List.range len).map fun i => (i * z, z))[·]?) cells l = some out → Instr.fill (fun i => some (i * z, z)) cells l = some out := by
            intro l
            induction l with
            | nil => intro cells out h; simpa [Instr.fill] using h
            | cons p l ih =>
              obtain ⟨i, v⟩ := p
              intro cells out h
              simp only [Instr.fill] at h ⊢
              by_cases hi : i < len
              · have : ((List.range len).map fun i => (i * z, z))[i]? = some (i * z, z) := by simp [hi]
                rw [this] at h
                simp only at h
                split at h
                · cases h
                · rename_i hc; rw [if_neg hc]; exact ih _ _ h
              · have : ((List.range len).map fun i => (i * z, z))[i]? = none := by simp; omega
                rw [this] at h
                cases h
          have ho' := hfill _ _ _ ho
          obtain ⟨s', h1, h2⟩ := vcNew_sound (vs := out) (v := .slice (some ⟨w.heap.size, 0, none⟩) len len) h hr hd (fun M hM => by simp [has, den, hM, Res.slAt])
          have : (execOp a.eval o).run P w = .ok (.value (.slice (some ⟨w.heap.size, 0, none⟩) len len)) (w.alloc (.cells out e)) := by
            have hne : ¬ (16777216 < len * z) := by omega
            simp only [execOp, he, Instr.buildSlice, Sem.run_bind, run_underlying ht, Result.andThen_ok, run_sizeOf_T hz]
            rw [if_neg (by simpa using hne)]
            by_cases h0 : len * z = 0
            · have hl0 : len = 0 := by
                rcases Nat.mul_eq_zero.1 h0 with h | h
                · exact h
                · omega
              subst hl0
              simp only [Nat.zero_mul] at ho' ⊢
              have e0 : ∀ z1 z2 : Array Value, ((Array.range 0).map fun i => z1[i % z1.size]!) = ((Array.range 0).map fun i => z2[i % z2.size]!) := by
                intro z1 z2
                apply Array.ext'
                simp
              rw [e0 zv.cells #[]] at ho'
              simp only [if_true, Sem.run_bind, Sem.run_pure, Result.andThen_ok]
              rw [ho']
              simp [newRow]
            · rw [if_neg h0]
              simp only [Sem.run_bind, hzrun, Sem.run_pure, Result.andThen_ok]
              rw [ho']
              simp [newRow]
          exact ⟨_, _, this, kept_alloc _ _, s', h1, h2⟩
        · exact h.elim
      · exact h.elim
    · exact h.elim
  · rename_i t he
    have hm := hr.mem.new (.map #[] 0) (.obj w.heap.size (.map #[] 0)) (fun b hb => by cases hb; rfl) (heap_alloc_at _)
    have : (execOp a.eval o).run P w = .ok (.value (.map (some w.heap.size))) (w.alloc (.map #[] 0)) := by
      simp only [execOp, he, Instr.makeMap]
      rfl
    exact ⟨_, _, this, kept_alloc _ _, rel_put (x := .mp s.M.length) (hr.frame.mono (Grows.append s.M _).places.has_) hr.defers hm (by simp [has, den, Res.mapVal]) (h w.heap.size)⟩
  · rename_i t d x he
    obtain ⟨hg, h⟩ := h
    have hx := has_core (ev_has hr.frame x) hg
    unfold vcBytesT vcBytesV at h
    split at h
    · rename_i e ht hd
      obtain ⟨hu8, h⟩ := h
      split at h
      · rename_i st hev
        rw [hev] at hx
        simp only [has] at hx
        have hrun := run_bytes_of_string (P := P) w t d e st ht hd hu8
        have hge := grownCap_ge w st.size 0 e
        have hk : Kept w (fun _ => False) (w.drew.alloc (.cells (bytesRow st (grownCap w st.size 0 e)) e ((bytesRow st (grownCap w st.size 0 e)).size, (bytesRow st (grownCap w st.size 0 e)).size + 1))) :=
          ⟨rfl, rfl, rfl, by rw [heap_alloc_size]; show w.heap.size ≤ w.heap.size + 1; omega, fun _ hb _ => heap_alloc_lt (w := w.drew) hb⟩
        have hsz : (bytesRow st (grownCap w st.size 0 e)).size = grownCap w st.size 0 e := by
          simp only [bytesRow, Array.size_append, Array.size_map, Array.size_replicate]
          have : st.data.size = st.size := rfl
          omega
        have hxs : (bytesRow st (grownCap w st.size 0 e)) = (st.data.toList.map byteV ++ (List.replicate (grownCap w st.size 0 e - st.size) (Value.int .u8 0))).toArray := by
          apply Array.ext'
          simp only [bytesRow, Array.toList_append, Array.toList_map, Array.toList_replicate]
          rfl
        have hm := hr.mem.drew.new (.cells (bytesRow st (grownCap w st.size 0 e)) e ((bytesRow st (grownCap w st.size 0 e)).size, (bytesRow st (grownCap w st.size 0 e)).size + 1))
          (.arr w.heap.size (st.data.toList.map byteV ++ (List.replicate (grownCap w st.size 0 e - st.size) (Value.int .u8 0))) e (grownCap w st.size 0 e, grownCap w st.size 0 e + 1)) (fun b hb => by cases hb; rfl) (by
            show (w.drew.alloc _).heap[w.drew.heap.size]? = _
            rw [heap_alloc_at, hsz, hxs])
        refine ⟨_, _, by simp only [execOp, he, ← hx, Sem.run_bind, hrun, Result.andThen_ok] <;> rfl, hk, ?_⟩
        exact rel_put (x := .sl s.M.length 0 st.size (grownCap w st.size 0 e)) (hr.frame.mono (Grows.append s.M _).places.has_) hr.defers hm (by simp [has, den, Res.slAt])
          (h w.heap.size (grownCap w st.size 0 e) _ hge (by simp))
      · exact h.elim
    · exact h.elim
  · rename_i t n c he
    obtain ⟨⟨hg1, hg2⟩, h⟩ := h
    have hx := has_core (ev_has hr.frame n) hg1
    have hy := has_core (ev_has hr.frame c) hg2
    unfold vcMakeT vcMakeE vcMakeI at h
    split at h
    · rename_i e ht
      split at h
      · rename_i z by_ zc hz hb hzc
        obtain ⟨hzl, hz0, h⟩ := h
        split at h
        · rename_i kl nn kc cc hn hc
          obtain ⟨h1, h2, h3, h4, h5⟩ := h
          rw [hn] at hx
          rw [hc] at hy
          simp only [has] at hx hy
          simp only [sizeT, Option.map_eq_some_iff] at hz
          obtain ⟨i, hi, hzi⟩ := hz
          have hbi : i.bytes = by_ := by simpa [bytesT, hi] using hb
          simp only [zeroT, hi, Option.bind_some, Option.map_eq_some_iff] at hzc
          obtain ⟨zv, hzv, hzc⟩ := hzc
          have hrun := run_make (P := P) w t e i zv ht hi hzv kl kc nn cc h1 h2 (by rw [hbi]; exact h3) (by unfold maxLen at h4; omega)
          have hzs : zv.cells.size = z := by rw [← hzl, ← hzc]; simp
          have hcells : (madeCells zv.cells (cc.toNat * i.size)).toList.take (nn.toNat * z) = madeL zc (nn.toNat * z) := by
            have hle : nn.toNat * z ≤ cc.toNat * i.size := by rw [hzi]; exact Nat.mul_le_mul_right _ (by omega)
            apply List.ext_getElem?
            intro k
            rw [List.getElem?_take]
            simp only [madeCells, madeL, Array.toList_map, Array.toList_range, List.getElem?_map]
            by_cases hk : k < nn.toNat * z
            · rw [if_pos hk, List.getElem?_range (by omega), List.getElem?_range hk]
              simp only [Option.map_some, Option.some.injEq]
              have hlt : k % z < z := Nat.mod_lt _ hz0
              rw [hzs, hzl, ← hzc]
              rw [List.getD_eq_getElem?_getD, getElem!_def]
              simp [hzs, hlt]
            · rw [if_neg hk, List.getElem?_eq_none (l := List.range (nn.toNat * z)) (by simp; omega)]; rfl
          have hm := hr.mem.new (.cells (madeCells zv.cells (cc.toNat * i.size)) e) (.row (some ⟨w.heap.size, 0, none⟩) cc.toNat e z nn.toNat (madeL zc (nn.toNat * z))) (fun b hb => by simp [Res.key] at hb; exact hb.symm)
            ⟨by simp [madeL], .inr ⟨w.heap.size, cc.toNat, _, rfl, Nat.zero_le _, heap_alloc_at _, by omega, by omega, by rw [size_madeCells, hzi], hcells⟩⟩
          refine ⟨_, _, by simp only [execOp, he, ← hx, ← hy, Sem.run_bind, hrun, Result.andThen_ok] <;> rfl, kept_alloc _ _, ?_⟩
          exact rel_put (x := .row s.M.length) (hr.frame.mono (Grows.append s.M _).places.has_) hr.defers hm (by simp [has, den, Res.rowVal]) (h5 w.heap.size)
        · exact h.elim
      · exact h.elim
    · exact h.elim
  · exact h.elim

theorem vcCopy_sound {P : Program} {N : Nat} {dst : Option Nat} {t t' ty : TypeId} {d x : SV} {s : SS} {K : SS → Prop} (h : vcCopyT P N dst d x s K (P.underlying t)) {E : Env} {a : Act} {w : World} (hr : Rel E N s a w)
    {u v : Value} (hd : has s.M d u) (hx : has s.M x v) : ∃ v' w', (Builtin.copy_ #[t, t'] ty #[u, v]).run P w = .ok v' w' ∧ ∃ s', Rel E N s' (a.put dst v') w' ∧ K s' := by
  unfold vcCopyT vcCopyV vcCopyR at h
  split at h
  · rename_i e ht
    obtain ⟨hz, h⟩ := h
    split at h
    · rename_i i off len cap st
      split at h
      · rename_i b cs ty' hi
        obtain ⟨vs, hcs, hfit, hK⟩ := h
        simp only [has] at hx
        subst hx
        simp only [has, den, hi, Option.bind_some, Res.slAt, Option.some.injEq] at hd
        subst hd
        have hlen : vs.length = cs.length := by rw [hcs]; simp
        have hn : (List.map byteV (st.data.toList.take len)).length = min st.size len := by
          have : st.data.toList.length = st.size := rfl
          simp only [List.length_map, List.length_take, this]; omega
        obtain ⟨cur, hh, hsz, hm⟩ := hr.mem.set_row (off := off) (new := (List.map byteV (st.data.toList.take len)).map .val) (vs := List.map byteV (st.data.toList.take len)) hi
          (by rw [List.length_map, hn]; omega) (by simp) (fun j c hc => by
            rw [List.getElem?_map, Option.map_eq_some_iff] at hc
            obtain ⟨y, hy, rfl⟩ := hc
            rw [List.getD_eq_getElem?_getD, hy]; rfl)
        have hst := run_storeCells_at (P := P) b off ty' (List.map byteV (st.data.toList.take len)) 0 cur w hh (by rw [hn]; omega) (fun v hv => by
          obtain ⟨c, _, rfl⟩ := List.mem_map.1 hv; rfl)
        have hf : (Builtin.firstCells 1 (min st.size len) (.string st)).run P w = .ok (List.map byteV (st.data.toList.take len)).toArray w := by
          simp only [Builtin.firstCells, Sem.run_pure]
          congr 1
          apply Array.ext'
          have : st.data.toList.length = st.size := rfl
          simp only [List.map_take]
          simp only [ByteArray.data_extract, Array.toList_map, Array.toList_extract, List.extract_eq_take_drop, List.drop_zero, Nat.sub_zero, List.map_take]
          have e0 : (fun b : UInt8 => Value.int .u8 b.toNat) = byteV := rfl
          rw [e0, List.take_eq_take_iff, List.length_map, this]
          omega
        have hmin : Nat.min st.size len = min st.size len := rfl
        refine ⟨.int .i64 (min st.size len : Nat), w.setRow b (cur.toList.take off ++ (List.map byteV (st.data.toList.take len)) ++ cur.toList.drop (off + (List.map byteV (st.data.toList.take len)).length)).toArray, ?_, ?_⟩
        rotate_left
        · have hP : Places s.M (s.M.set i (.blk b ((vs.take off ++ (st.data.toList.take len).map byteV ++ vs.drop (off + min st.size len)).map .val) ty')) := places_set hi (fun _ _ e => e) (fun _ e => e) (fun _ _ e => e) (fun _ e => e) (fun _ _ _ _ e => e)
          have e1 : cs.take off ++ (List.map byteV (st.data.toList.take len)).map .val ++ cs.drop (off + ((List.map byteV (st.data.toList.take len)).map SV.val).length) = (vs.take off ++ (st.data.toList.take len).map byteV ++ vs.drop (off + min st.size len)).map .val := by
            rw [List.length_map, hn, hcs, List.map_append, List.map_append]; simp only [List.map_take, List.map_drop]
          rw [e1] at hm
          exact rel_put (x := .val (.int .i64 (min st.size len : Nat))) (v := .int .i64 (min st.size len : Nat)) (hr.frame.mono hP.has_) hr.defers hm rfl hK
        · have hlo : (Builtin.lenOf (.string st)).run P w = .ok st.size w := by simp [Builtin.lenOf]
          simp only [Builtin.copy_, List.getElem?_toArray, List.getElem?_cons_zero, List.getElem?_cons_succ, Sem.run_bind, run_underlying ht, Result.andThen_ok, hlo, run_sizeOf_T hz, hmin, hf, hst, Sem.run_pure]
          rfl
      · exact h.elim
    · exact h.elim
  · exact h.elim

theorem vcStep_sound {P : Program} {N : Nat} {o : Oper} {s : SS} {K : SS → Prop} (h : vcStep P N o s K) : vcRaw P N o s K := by
  intro E a w hr
  unfold vcStep vcStepO at h
  split at h
  · rename_i e he
    obtain ⟨v, w', hrun, _, hs⟩ := vcGrowO_sound (o := o) (s := s) (K := K) (by rw [he]; exact h) hr
    rw [Oper.wp, hrun, Oper.upon_value]
    exact hs
  · rename_i e x he
    obtain ⟨v, w', hrun, _, hs⟩ := vcGrowO_sound (o := o) (s := s) (K := K) (by rw [he]; exact h) hr
    rw [Oper.wp, hrun, Oper.upon_value]
    exact hs
  · rename_i t len parts he
    obtain ⟨v, w', hrun, _, hs⟩ := vcGrowO_sound (o := o) (s := s) (K := K) (by rw [he]; exact h) hr
    rw [Oper.wp, hrun, Oper.upon_value]
    exact hs
  · rename_i t p x he
    obtain ⟨hg1, hg2, h⟩ := h
    obtain ⟨w', hrun, s', h1, h2⟩ := vcStore_sound h hr (has_core (ev_has hr.frame p) hg1) (has_core (ev_has hr.frame x) hg2)
    have : (execOp a.eval o).run P w = .ok .skip w' := by simp [execOp, he, hrun]
    rw [Oper.wp, this, Oper.upon_skip]
    exact ⟨s', h1, h2⟩
  · rename_i t he
    obtain ⟨v, w', hrun, _, hs⟩ := vcGrowO_sound (o := o) (s := s) (K := K) (by rw [he]; exact h) hr
    rw [Oper.wp, hrun, Oper.upon_value]
    exact hs
  · rename_i t d x he
    obtain ⟨v, w', hrun, _, hs⟩ := vcGrowO_sound (o := o) (s := s) (K := K) (by rw [he]; exact h) hr
    rw [Oper.wp, hrun, Oper.upon_value]
    exact hs
  · rename_i t n c he
    obtain ⟨v, w', hrun, _, hs⟩ := vcGrowO_sound (o := o) (s := s) (K := K) (by rw [he]; exact h) hr
    rw [Oper.wp, hrun, Oper.upon_value]
    exact hs
  · rename_i t m k v he
    obtain ⟨hdst, ⟨g1, g2, g3⟩, h⟩ := h
    have e1 := has_core (ev_has hr.frame m) g1
    have e2 := has_core (ev_has hr.frame k) g2
    have e3 := has_core (ev_has hr.frame v) g3
    unfold vcPutT vcPutX vcPutV vcPutR at h
    split at h
    · rename_i kt e ht
      split at h
      · rename_i i key hm hk
        rw [hm] at e1
        rw [hk] at e2
        simp only [has] at e2
        split at h
        · rename_i v' hv
          have e4 := has_den e3 hv
          split at h
          · rename_i b es c hi
            obtain ⟨hkeys, hK⟩ := h
            have hb : w.heap[b]? = some (.map es c) := hr.mem.own i _ hi
            simp [has, den, hi, Res.mapVal] at e1
            have hrun := run_mapUpdateE (P := P) ht hb (v := v') hkeys
            have hP : Places s.M (s.M.set i (.obj b (.map (putE es c key v') (putC es c key)))) := places_set hi (fun _ _ e => e) (fun _ e => e) (fun _ _ e => e) (fun _ e => e) (fun _ _ _ _ e => e)
            have hmem := hr.mem.turn hi rfl (setMap_kept w b (putE es c key v') (putC es c key)) hP (fun c hc => by cases hc; exact .inl rfl) (setMap_heap hb)
            have : (execOp a.eval o).run P w = .ok .skip (setMap w b (putE es c key v') (putC es c key)) := by simp [execOp, he, ← e1, ← e2, e4, hrun]
            rw [Oper.wp, this, Oper.upon_skip]
            exact ⟨_, ⟨by rw [hdst]; exact hr.frame.mono hP.has_, by rw [hdst]; exact hr.defers, hmem⟩, hK⟩
          · exact h.elim
        · exact h.elim
      · exact h.elim
    · exact h.elim
  · rename_i c he
    obtain ⟨callee, args, argTypes⟩ := c
    simp only at h
    unfold vcCallee vcCallF vcApp2 at h
    split at h
    · rename_i f
      obtain ⟨hg, hgs, hk, h⟩ := h
      rw [cores_eq] at hk h
      have hf := has_core (ev_has hr.frame f) hg
      have hargs := denL_args hr.frame (grdAll_mem hgs) hk
      split at h
      · rename_i g cap hev
        rw [hev] at hf
        simp only [has] at hf
        exact vcCallG_sound he h hr hf.symm (denL_append hargs (denL_vals cap))
      · rename_i g cap hev
        rw [hev] at hf
        simp only [has, den, Option.map_eq_some_iff] at hf
        obtain ⟨caps, hcap, hf⟩ := hf
        exact vcCallG_sound he h hr hf.symm (denL_append hargs hcap)
      · exact h E a w hr
    · split at h
      · rename_i x y t t' hx ht
        obtain rfl : args = #[x, y] := Array.ext' (by simpa using hx)
        obtain rfl : argTypes = #[t, t'] := Array.ext' (by simpa using ht)
        obtain ⟨hg1, hg2, h⟩ := h
        obtain ⟨v', w', hrun, s', h1, h2⟩ := vcAppend_sound (ty := o.type) h hr (has_core (ev_has hr.frame x) hg1) (has_core (ev_has hr.frame y) hg2)
        have : (execOp a.eval o).run P w = .ok (.value v') w' := by simp [execOp, he, resolve, invoke, builtin, hrun]
        rw [Oper.wp, this, Oper.upon_value]
        exact ⟨s', h1, h2⟩
      · exact h E a w hr
    · unfold vcCopy2 at h
      split at h
      · rename_i x y t t' hx ht
        obtain rfl : args = #[x, y] := Array.ext' (by simpa using hx)
        obtain rfl : argTypes = #[t, t'] := Array.ext' (by simpa using ht)
        obtain ⟨hg1, hg2, h⟩ := h
        obtain ⟨v', w', hrun, s', h1, h2⟩ := vcCopy_sound (ty := o.type) (t' := t') h hr (has_core (ev_has hr.frame x) hg1) (has_core (ev_has hr.frame y) hg2)
        have : (execOp a.eval o).run P w = .ok (.value v') w' := by simp [execOp, he, resolve, invoke, builtin, hrun]
        rw [Oper.wp, this, Oper.upon_value]
        exact ⟨s', h1, h2⟩
      · exact h E a w hr
    · exact h E a w hr
  · exact h E a w hr

end Go.SX
