/- A small layer for proofs about calls, part 14: from a function's contract to a law's row. -/
import Derived.Test.YtaecppimppeebaaDoorSxC
import Derived.ProofKit
import Derived.Carry
import Derived.Deep.Slices
import Derived.OpenShut
namespace Go.SX
open Go Go.WideShapes Go.ChangeShapes Go.RowKit

/-- all of memory, as it lies -/
def heapOf (W : World) : Heap := fun b => W.heap[b]?
theorem fnE_calls {P : Program} {f : FuncId} {args : Array Value} {W : World} {r : Value} (h : FnE P f args.toList (heapOf W) r) :
    Calls P f args W fun e w' => e = .returned r ∧ Below W.heap.size W w' := by
  have h1 := h W args.toList (denL_vals _) ⟨fun _ _ e => e, by simp, by simp, by simp, by simp, fun b o hb => .inl hb, Kept.refl _ _⟩
  have e : args.toList.toArray = args := Array.toArray_toList
  rw [e] at h1
  refine h1.mono ?_
  rintro e' w' ⟨v, Z', L', rfl, hz, hm, rfl⟩
  exact ⟨rfl, hm.kept.os, hm.kept.tape, hm.kept.output, hm.kept.size, fun b hb => hm.kept.block b hb (by rintro ⟨i, r, hi, _⟩; simp at hi)⟩

theorem trodAll_len {H : Type} {enc : TypeId × Value → H} {P : Program} {w : World} {base : Nat} {sp : Nat → Bool} {held : Bool} : ∀ {ts : List TypeId} {vs : List Value} {ds : List (DataW H)} {ps : List MemPlace}, DataW.TrodAll enc P w base sp held ts vs ds ps → ds.length = ts.length
  | [], _, _, _, h => by obtain ⟨rfl, rfl, rfl⟩ := trodAll_nil h; rfl
  | _ :: _, _, _, _, h => by
    obtain ⟨v, vs1, d, ds1, a, b, rfl, rfl, rfl, h1, h2⟩ := trodAll_cons h
    simp [trodAll_len h2]
theorem trodAll_stays {H : Type} {enc : TypeId × Value → H} {P : Program} (hl : laidOutB P = true) {W W' : World} (hb : Below W.heap.size W W') : ∀ {ts : List TypeId} {vs : List Value} {ds : List (DataW H)} {ps : List MemPlace},
    (∀ t ∈ ts, P.readableRec t = true ∧ t < P.types.size) → DataW.TrodAll enc P W 0 (fun _ => true) true ts vs ds ps → (∀ x ∈ ps, x.block < W.heap.size) → DataW.TrodAll enc P W' 0 (fun b => decide (b < W.heap.size)) true ts vs ds ps
  | [], [], [], _, _, h, _ => h
  | [], [], _ :: _, _, _, h, _ => h.elim
  | [], _ :: _, _, _, _, h, _ => h.elim
  | _ :: _, [], _, _, _, h, _ => h.elim
  | _ :: _, _ :: _, [], _, _, h, _ => h.elim
  | t :: ts, v :: vs, d :: ds, ps, ht, ⟨p, q, h1, h2, e⟩, hlt => by
    subst e
    exact ⟨p, q, Below.trod hl (ht t (by simp)).1 (ht t (by simp)).2 h1 hb (fun x hx => hlt x (by simp [hx])),
      trodAll_stays hl hb (fun t' h' => ht t' (by simp [h'])) h2 (fun x hx => hlt x (by simp [hx])), rfl⟩

theorem law_post {H : Type} {enc : TypeId × Value → H} {P : Program} {f : Func} {s : ChangeSpec} {apart handsOn : Bool} {tb : TypeId} {W W' : World} {args : Array Value} {ds gs : List (DataW H)} {before : List MemPlace}
    (hl : laidOutB P = true) (hv : s.vars = []) (hres : f.resultTypes = #[tb]) (hbool : P.underlying tb = some .bool)
    (hfn : ∀ ds : List (DataW H), ds.length = f.params.toList.length → s.fn H ds = { results := [.lit (.bool true)], args := ds })
    (hread : ∀ t ∈ f.params.toList, P.readableRec t = true ∧ t < P.types.size)
    (hW : DataW.Whole enc P f.params.toList s.vars apart W args.toList ds gs before) (hb : Below W.heap.size W W') :
    s.post enc P f apart true handsOn false W args (.bool true) W' := by
  have hlt : ∀ x ∈ before, x.block < W.heap.size := fun x hx => hW.lt x hx
  have hW' := hW
  obtain ⟨p, q, hA, hV, rfl, hfz, hnd⟩ := hW
  rw [hv] at hV
  obtain ⟨rfl, rfl⟩ := trodVars_none hV
  have e := hfn ds (trodAll_len hA)
  refine ⟨ds, [], p ++ [], [], p, [], hW', ?_, ?_, ?_, ?_, fun h => by cases h⟩
  · rw [List.append_nil, e, hres]
    exact trodAll_mk1 (shut_bool hbool true)
  · rw [List.append_nil, e]
    exact trodAll_stays hl hb hread hA (fun x hx => hlt x (by simp [hx]))
  · rw [List.append_nil, e, hv]; rfl
  · exact World.keptBut_mono (fun x hx => ⟨hx, .inr (.inl (by simpa using hx))⟩) (hb.frame (· ∈ p ++ []))

/-- .. of each argument's own form, the law answers true: so the row's contract holds -/
theorem law_lifted {C : Checked} {os : Os} {f : FuncId} {fn : Func} {s : ChangeSpec} {apart handsOn : Bool} {tb : TypeId} {H : Type} {enc : TypeId × Value → H}
    (own : ownKnob C.prog.godebug = none) (started : os.Started) (noInit : C.prog.inits.idxOf? f = none) (hfn : C.prog.funcs[f]? = some fn)
    (witness : ∃ (w : World) (tape : Tape) (i : Input), w.os = os ∧ (w.forCall tape i).Shaped C.prog ∧ i.vars = [] ∧ Input.okWide C.prog (w.forCall tape i) .any w.heap.size f i ∧
      s.pre6 enc C.prog fn [] apart (w.forCall tape i).memory i.args ∧ ({} : Assume).holds C.prog (lone (Frame.enter C.prog f i.args .normal) [] (w.forCall tape i)))
    (hl : laidOutB C.prog = true) (hv : s.vars = []) (hres : fn.resultTypes = #[tb]) (hbool : C.prog.underlying tb = some .bool)
    (hf : ∀ ds : List (DataW H), ds.length = fn.params.toList.length → s.fn H ds = { results := [.lit (.bool true)], args := ds })
    (hread : ∀ t ∈ fn.params.toList, C.prog.readableRec t = true ∧ t < C.prog.types.size)
    (h : ∀ (W : World) (base : Nat) (args : Array Value) (ds : List (DataW H)) (ps : List MemPlace), (∀ (j : Nat) t v, fn.params[j]? = some t → args[j]? = some v → Value.okWide C.prog W .any base t v) →
      DataW.TrodAll enc C.prog W 0 (fun _ => true) true fn.params.toList args.toList ds ps → W.noneFrozen ps → FnE C.prog f args.toList (heapOf W) (.bool true)) :
    ReturnsInHanded {} C os f .any (s.pre6 enc C.prog fn [] apart) (s.post enc C.prog fn apart true handsOn false) := by
  refine returnsInHanded_of_change own started noInit hfn witness ?_
  intro W base args ds gs before hval hW _ _
  have hW' := hW
  obtain ⟨p, q, hA, hV, rfl, hfz, hnd⟩ := hW
  refine (fnE_calls (h W base args ds p hval hA (fun b off hp => hfz b off (by simp [hp])))).mono ?_
  rintro e w' ⟨rfl, hb⟩
  exact ⟨_, rfl, law_post hl hv hres hbool hf hread hW' hb⟩

/-! ## arguments opened -/
theorem rds_heap {W : World} {a : Addr} {off : Nat} {vs : List Value} (h : ∀ (j : Nat) (v : Value), vs[j]? = some v → W.cell? (a.add (off + j)) = some v) : Rds (heapOf W) (some a) off vs := by
  intro j v hv
  have := h j v hv
  show (heapOf W).cell (a.add (off + j)) = some v
  unfold Heap.cell heapOf
  unfold World.cell? at this
  exact this

theorem rds_list {α : Type} {Z : Heap} {A : Option Addr} (f : α → List Value) {z : Nat} (hz : ∀ a, (f a).length = z) (Q : α → Prop) : ∀ (n : Nat), (∀ i, i < n → ∃ a, Rds Z A (i * z) (f a) ∧ Q a) →
    ∃ l : List α, l.length = n ∧ Rds Z A 0 (l.flatMap f) ∧ ∀ a ∈ l, Q a
  | 0, _ => ⟨[], rfl, fun j v hv => by simp at hv, by simp⟩
  | n + 1, h => by
    obtain ⟨l, h1, h2, h3⟩ := rds_list f hz Q n fun i hi => h i (by omega)
    obtain ⟨a, h4, h5⟩ := h n (by omega)
    have hlen : (l.flatMap f).length = n * z := by
      have : ∀ l : List α, (l.flatMap f).length = l.length * z := by
        intro l
        induction l with
        | nil => simp
        | cons x l ih => rw [List.flatMap_cons, List.length_append, ih, hz, List.length_cons, Nat.add_mul, Nat.one_mul, Nat.add_comm]
      rw [this, h1]
    refine ⟨l ++ [a], by simp [h1], fun j v hv => ?_, fun x hx => ?_⟩
    · rw [List.flatMap_append, List.getElem?_append] at hv
      split at hv
      · exact h2 j v hv
      · rename_i hj
        have := h4 (j - n * z) v (by rw [hlen] at hv; simpa using hv)
        rw [hlen] at hj
        rw [show n * z + (j - n * z) = 0 + j by omega] at this
        exact this
    · rcases List.mem_append.1 hx with hx | hx
      · exact h3 x hx
      · simp at hx; subst hx; exact h5

section
variable {H : Type} {enc : TypeId × Value → H} {P : Program} {W : World}

/-- what the cells of a value of type t look like -/
def Opens (enc : TypeId × Value → H) (P : Program) (W : World) (t : TypeId) {α : Type} (f : α → List Value) (Q : α → Prop) : Prop :=
  ∀ (n : Nat) (cs : List Value) (x : DataW H × List MemPlace), DataW.trod enc P W 0 (fun _ => true) true n t cs = some x → ∃ a, cs = f a ∧ Q a
theorem Opens.conv {t : TypeId} {α β : Type} {f : α → List Value} {Q : α → Prop} {f' : β → List Value} {Q' : β → Prop} (h : Opens enc P W t f Q) (g : α → β) (hf : ∀ a, f' (g a) = f a) (hQ : ∀ a, Q a → Q' (g a)) : Opens enc P W t f' Q' :=
  fun n cs x hx => by
    obtain ⟨a, h1, h2⟩ := h n cs x hx
    exact ⟨g a, by rw [hf]; exact h1, hQ a h2⟩
theorem opens_int {t : TypeId} {k : IntKind} (ht : P.underlying t = some (.int k)) : Opens enc P W t (fun n : Int => [.int k n]) (fun n => (Lit.int k n).wf = true) := fun _ _ _ h => by
  obtain ⟨n, h1, _, h2⟩ := DataW.trod_int ht h; exact ⟨n, h1, h2⟩
theorem opens_bool {t : TypeId} (ht : P.underlying t = some .bool) : Opens enc P W t (fun b : Bool => [.bool b]) (fun _ => True) := fun _ _ _ h => by
  obtain ⟨n, h1, _⟩ := DataW.trod_bool ht h; exact ⟨n, h1, trivial⟩
theorem opens_string {t : TypeId} (ht : P.underlying t = some .string) : Opens enc P W t (fun s : ByteArray => [.string s]) (fun s => s.size ≤ maxLen) := fun _ _ _ h => by
  obtain ⟨n, h1, _, h2⟩ := DataW.trod_string ht h; exact ⟨n, h1, h2⟩
theorem opens_float {t : TypeId} {k : FloatKind} (ht : P.underlying t = some (.float k)) : Opens enc P W t (fun b : Nat => [.float k b]) (fun b => (Lit.float k b).wf = true) := fun fuel cs x h => by
  cases fuel with
  | zero => simp [DataW.trod] at h
  | succ n =>
    unfold DataW.trod at h
    rw [ht] at h
    split at h <;> simp_all

structure SliceD (α : Type) where
  A : Option Addr
  l : List α
  cap : Nat
def SliceD.cells {α : Type} (s : SliceD α) : List Value := [.slice s.A s.l.length s.cap]
theorem opens_slice {t e : TypeId} {α : Type} {f : α → List Value} {Q : α → Prop} (z : Nat) (ht : P.underlying t = some (.slice e)) (hz : P.cellsOf e = z) (hf : ∀ a, (f a).length = z) (he : Opens enc P W e f Q) :
    Opens enc P W t (SliceD.cells (α := α)) (fun s => Rds (heapOf W) s.A 0 (s.l.flatMap f) ∧ (∀ a ∈ s.l, Q a) ∧ s.l.length ≤ s.cap ∧ s.cap ≤ maxLen) := fun n cs x h => by
  rcases Deep.open_slice ht h with ⟨h1, _⟩ | ⟨a, len, cap, m, n', D, Pl, rfl, _, hl, hc, hm, _, hi⟩
  · exact ⟨⟨none, [], 0⟩, h1, fun j v hv => by simp at hv, by simp, by simp, by simp⟩
  · have hm' : m = cap := by simpa using hm
    obtain ⟨l, h1, h2, h3⟩ := rds_list (Z := heapOf W) (A := some a) f hf Q len fun i hi' => by
      obtain ⟨cs', hc1, hc2⟩ := hi i (by omega)
      obtain ⟨b, rfl, hb⟩ := he n' cs' _ hc2
      obtain ⟨_, hl1, hl2⟩ := World.cells?_some hc1
      refine ⟨b, rds_heap fun j v hv => ?_, hb⟩
      have hj : j < P.cellsOf e := by rw [← hl1]; exact (List.getElem?_eq_some_iff.1 hv).1
      have := hl2 j hj
      rw [hz, SX.add_add, hv] at this
      exact this
    exact ⟨⟨some a, l, cap⟩, by simp [SliceD.cells, h1], h2, h3, by simpa [h1] using hl, hc⟩

def OpensF (enc : TypeId × Value → H) (P : Program) (W : World) (N : Nat) (fs : List Field) (off : Nat) {α : Type} (f : α → List Value) (Q : α → Prop) : Prop :=
  ∀ (n : Nat) (cs : List Value), cs.length = N → (∀ fd ∈ fs, ∃ x, DataW.trod enc P W 0 (fun _ => true) true n fd.type ((cs.drop fd.offset).take (P.cellsOf fd.type)) = some x) → ∃ a, cs.drop off = f a ∧ Q a
theorem opensF_nil {N : Nat} : OpensF enc P W N [] N (fun _ : Unit => []) (fun _ => True) := fun n cs h _ => ⟨(), by simp [h], trivial⟩
theorem opensF_cons {N off : Nat} {fd : Field} {fs : List Field} {α β : Type} {f : α → List Value} {Q : α → Prop} {g : β → List Value} {R : β → Prop} (z : Nat) (ho : fd.offset = off) (hz : P.cellsOf fd.type = z)
    (h : Opens enc P W fd.type f Q) (k : OpensF enc P W N fs (off + z) g R) : OpensF enc P W N (fd :: fs) off (fun x : α × β => f x.1 ++ g x.2) (fun x => Q x.1 ∧ R x.2) := fun n cs hl hx => by
  obtain ⟨x, h1⟩ := hx fd (by simp)
  obtain ⟨a, ha, qa⟩ := h n _ _ h1
  obtain ⟨b, hb, rb⟩ := k n cs hl fun fd' hfd => hx fd' (by simp [hfd])
  refine ⟨(a, b), ?_, qa, rb⟩
  rw [ho, hz] at ha
  show cs.drop off = f a ++ g b
  rw [← ha, ← hb, ← List.drop_drop, List.take_append_drop]
theorem opens_struct {t : TypeId} {fs : Array Field} {N : Nat} {α : Type} {f : α → List Value} {Q : α → Prop} (ht : P.underlying t = some (.struct fs)) (hN : P.cellsOf t = N) (h : OpensF enc P W N fs.toList 0 f Q) : Opens enc P W t f Q := fun n cs x hx => by
  obtain ⟨ys, n', hn', hy, hlen, hyl, hf⟩ := DataW.trod_struct ht hx
  refine (h n' cs (hlen.trans hN) fun fd hfd => ?_).imp fun a ha => by simpa using ha
  obtain ⟨i, hi⟩ := List.getElem?_of_mem hfd
  have hi' : fs[i]? = some fd := by simpa using hi
  have hl : i < ys.length := by rw [hyl]; exact (Array.getElem?_eq_some_iff.1 hi').1
  exact ⟨ys[i], by rw [hf i fd hi']; exact List.getElem?_eq_getElem hl⟩

theorem drop_take_one {cs : List Value} {i : Nat} (h : i < cs.length) : (cs.drop i).take 1 = [cs[i]] := by
  rw [List.drop_eq_getElem_cons h]; rfl
/-- an array of numbers -/
theorem opens_ints {t e : TypeId} {N : Nat} {k : IntKind} (ht : P.underlying t = some (.array N e)) (he : P.underlying e = some (.int k)) (hc : P.cellsOf e = 1) (hN : P.cellsOf t = N) :
    Opens enc P W t (fun l : List Int => l.map (.int k)) (fun l => l.length = N ∧ ∀ n ∈ l, (Lit.int k n).wf = true) := fun n cs x hx => by
  obtain ⟨ys, m, _, _, hlen, hyl, hf⟩ := DataW.trod_array ht hx
  have key : ∀ i, i < N → ∃ a : Int, cs[i]? = some (.int k a) ∧ (Lit.int k a).wf = true := fun i hi => by
    have h1 := hf i hi
    rw [hc, Nat.mul_one, drop_take_one (by omega), List.getElem?_eq_getElem (by omega)] at h1
    obtain ⟨a, ha, _, hw⟩ := DataW.trod_int he h1
    refine ⟨a, ?_, hw⟩
    rw [List.getElem?_eq_getElem (by omega)]
    simpa using ha
  have : ∀ (cs : List Value), (∀ i, i < cs.length → ∃ a : Int, cs[i]? = some (.int k a) ∧ (Lit.int k a).wf = true) → ∃ l : List Int, cs = l.map (.int k) ∧ ∀ n ∈ l, (Lit.int k n).wf = true := by
    intro cs
    induction cs with
    | nil => exact fun _ => ⟨[], rfl, by simp⟩
    | cons c cs ih =>
      intro h
      obtain ⟨a, ha, hw⟩ := h 0 (by simp)
      obtain ⟨l, hl, hh⟩ := ih fun i hi => by simpa using h (i + 1) (by simpa using hi)
      simp at ha
      exact ⟨a :: l, by simp [ha, hl], by simp [hw]; exact hh⟩
  obtain ⟨l, hl, hw⟩ := this cs fun i hi => key i (by omega)
  refine ⟨l, hl, ?_, hw⟩
  have := congrArg List.length hl
  simp at this
  omega

/-- an argument of one cell -/
theorem opens_arg {t : TypeId} {v : Value} {α : Type} {f : α → List Value} {Q : α → Prop} {d : DataW H} {ps : List MemPlace} (h : Opens enc P W t f Q) (hd : DataW.Trod enc P W 0 (fun _ => true) true t v d ps) : ∃ a, v.cells.toList = f a ∧ Q a := by
  obtain ⟨n, hn⟩ := hd
  exact h n _ _ hn
theorem arg_slice {t e : TypeId} {v : Value} {r : Reach} {base : Nat} {α : Type} {Q : SliceD α → Prop} {d : DataW H} {ps : List MemPlace} (ht : P.underlying t = some (.slice e)) (hv : Value.okWide P W r base t v) (h : Opens enc P W t (SliceD.cells (α := α)) Q)
    (hd : DataW.Trod enc P W 0 (fun _ => true) true t v d ps) : ∃ s : SliceD α, v = .slice s.A s.l.length s.cap ∧ Q s := by
  obtain ⟨A, len, cap, rfl⟩ := okWide_slice ht hv
  obtain ⟨s, h1, h2⟩ := opens_arg h hd
  refine ⟨s, ?_, h2⟩
  have h1 : [Value.slice A len cap] = [.slice s.A s.l.length s.cap] := h1
  simpa using h1
theorem arg_int {t : TypeId} {v : Value} {r : Reach} {base : Nat} {k : IntKind} {d : DataW H} {ps : List MemPlace} (ht : P.underlying t = some (.int k)) (hv : Value.okWide P W r base t v)
    (hd : DataW.Trod enc P W 0 (fun _ => true) true t v d ps) : ∃ n, v = .int k n ∧ (Lit.int k n).wf = true := by
  obtain ⟨n, h1, _, _, h2⟩ := open_int ht hv hd; exact ⟨n, h1, h2⟩
theorem arg_string {t : TypeId} {v : Value} {r : Reach} {base : Nat} {d : DataW H} {ps : List MemPlace} (ht : P.underlying t = some .string) (hv : Value.okWide P W r base t v)
    (hd : DataW.Trod enc P W 0 (fun _ => true) true t v d ps) : ∃ s, v = .string s ∧ s.size ≤ maxLen := by
  obtain ⟨s, rfl⟩ := okWide_string ht hv
  obtain ⟨s', h1, h2⟩ := opens_arg (opens_string ht) hd
  have h1 : [Value.string s] = [.string s'] := h1
  simp at h1; subst h1
  exact ⟨s, rfl, h2⟩
theorem arg_float {t : TypeId} {v : Value} {r : Reach} {base : Nat} {k : FloatKind} {d : DataW H} {ps : List MemPlace} (ht : P.underlying t = some (.float k)) (hv : Value.okWide P W r base t v)
    (hd : DataW.Trod enc P W 0 (fun _ => true) true t v d ps) : ∃ n, v = .float k n ∧ (Lit.float k n).wf = true := by
  have : ∃ b, v = .float k b := by
    simp only [Value.okWide, ht, Cell.okWide] at hv
    cases v <;> simp_all [Cell.ok]
  obtain ⟨b, rfl⟩ := this
  obtain ⟨s', h1, h2⟩ := opens_arg (opens_float ht) hd
  have h1 : [Value.float k b] = [.float k s'] := h1
  simp at h1; subst h1
  exact ⟨b, rfl, h2⟩
theorem arg_struct {t : TypeId} {fs : Array Field} {v : Value} {r : Reach} {base : Nat} {α : Type} {f : α → List Value} {Q : α → Prop} {d : DataW H} {ps : List MemPlace} (ht : P.underlying t = some (.struct fs)) (hv : Value.okWide P W r base t v) (h : Opens enc P W t f Q)
    (hd : DataW.Trod enc P W 0 (fun _ => true) true t v d ps) : ∃ a, v = .agg (f a).toArray ∧ Q a := by
  obtain ⟨cs, rfl, _⟩ := okWide_struct ht hv
  obtain ⟨a, h1, h2⟩ := opens_arg h hd
  refine ⟨a, ?_, h2⟩
  have h1 : cs.toList = f a := h1
  rw [← h1]
end
end Go.SX
