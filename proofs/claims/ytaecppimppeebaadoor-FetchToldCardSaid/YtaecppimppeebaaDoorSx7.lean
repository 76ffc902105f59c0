/- A small layer for proofs about calls, part 7: values written out; one operation that only looks. -/
import Derived.Test.YtaecppimppeebaaDoorSxM
namespace Go.SX
open Go

theorem fold_set (off : Nat) : ∀ (l : List Value) (start : Nat) (cells : Array Value),
    ((l.zipIdx start).foldl (fun cs p => cs.setIfInBounds (off + p.2) p.1) cells).size = cells.size ∧
    ∀ i, ((l.zipIdx start).foldl (fun cs p => cs.setIfInBounds (off + p.2) p.1) cells)[i]? =
      if off + start ≤ i ∧ i < off + start + l.length ∧ i < cells.size then l[i - (off + start)]? else cells[i]?
  | [], start, cells => by
    refine ⟨rfl, fun i => ?_⟩
    simp only [List.zipIdx_nil, List.foldl_nil, List.length_nil]
    rw [if_neg (by omega)]
  | v :: l, start, cells => by
    have ih := fold_set off l (start + 1) (cells.setIfInBounds (off + start) v)
    simp only [List.zipIdx_cons, List.foldl_cons]
    refine ⟨by rw [ih.1]; simp, fun i => ?_⟩
    rw [ih.2 i]
    simp only [Array.size_setIfInBounds, List.length_cons, Array.getElem?_setIfInBounds]
    by_cases h1 : off + (start + 1) ≤ i ∧ i < off + (start + 1) + l.length ∧ i < cells.size
    · rw [if_pos h1, if_pos (by omega)]
      have : i - (off + start) = (i - (off + (start + 1))) + 1 := by omega
      rw [this]; rfl
    · rw [if_neg h1]
      by_cases h2 : off + start = i
      · subst h2
        by_cases h3 : off + start < cells.size
        · rw [if_pos rfl, if_pos h3, if_pos (by omega)]; simp
        · rw [if_pos rfl, if_neg h3, if_neg (by omega)]
          rw [Array.getElem?_eq_none (by omega)]
      · rw [if_neg h2, if_neg (by omega)]

theorem fill_one (v : Value) (off size : Nat) (cells : Array Value) (hv : v.cells.size = size) (hs : off + size ≤ cells.size) :
    (v.cells.zipIdx.foldl (fun cs (c, j) => cs.setIfInBounds (off + j) c) cells).toList = cells.toList.take off ++ v.cells.toList ++ cells.toList.drop (off + size) := by
  have h := fold_set off v.cells.toList 0 cells
  have e : v.cells.zipIdx.foldl (fun cs (c, j) => cs.setIfInBounds (off + j) c) cells = (v.cells.toList.zipIdx 0).foldl (fun cs p => cs.setIfInBounds (off + p.2) p.1) cells := by
    rw [← Array.foldl_toList, Array.toList_zipIdx]
  rw [e]
  apply List.ext_getElem?
  intro i
  rw [Array.getElem?_toList, h.2 i]
  subst hv
  simp only [Nat.add_zero, Array.length_toList]
  by_cases h1 : i < off
  · rw [if_neg (by omega), List.append_assoc, List.getElem?_append_left (by simp; omega), List.getElem?_take, if_pos h1]; simp
  · by_cases h2 : i < off + v.cells.size
    · rw [if_pos (by omega), List.append_assoc, List.getElem?_append_right (by simp; omega)]
      rw [List.getElem?_append_left (by simp; omega)]
      congr 1
      simp; omega
    · rw [if_neg (by omega), List.getElem?_append_right (by simp; omega), List.getElem?_drop]
      rw [Array.getElem?_toList]
      congr 1
      simp; omega

theorem denL_append {M : List Res} : ∀ {as bs : List SV} {us vs : List Value}, denL M as = some us → denL M bs = some vs → denL M (as ++ bs) = some (us ++ vs)
  | [], bs, us, vs, h, h' => by simp [denL] at h; subst h; simpa using h'
  | a :: as, bs, us, vs, h, h' => by
    simp only [denL, Option.bind_eq_some_iff, Option.map_eq_some_iff] at h
    obtain ⟨v, hv, ws, hws, rfl⟩ := h
    simp [denL, hv, denL_append hws h']
theorem denL_take {M : List Res} {cs : List SV} {vs : List Value} (h : denL M cs = some vs) (n : Nat) : denL M (cs.take n) = some (vs.take n) := by
  simpa using denL_sub h 0 n
theorem denL_drop {M : List Res} {cs : List SV} {vs : List Value} (h : denL M cs = some vs) (n : Nat) : denL M (cs.drop n) = some (vs.drop n) := by
  have := denL_sub h n cs.length
  rw [List.take_of_length_le (by simp), List.take_of_length_le (by have := denL_length h; simp; omega)] at this
  exact this

theorem fillS_sound {M : List Res} {places : List (Nat × Nat)} : ∀ {parts : List (Nat × SV)} {cs rs : List SV} {vals : List (Nat × Value)} {cells : Array Value},
    fillS places cs parts = some rs → denL M cs = some cells.toList → parts.length = vals.length →
    (∀ (j : Nat) (p : Nat × SV) (q : Nat × Value), parts[j]? = some p → vals[j]? = some q → p.1 = q.1 ∧ has M p.2 q.2) →
    ∃ out : Array Value, Instr.fill (places[·]?) cells vals = some out ∧ denL M rs = some out.toList
  | [], cs, rs, vals, cells, h, hd, hl, _ => by
    simp [fillS] at h
    subst h
    have : vals = [] := List.eq_nil_of_length_eq_zero (by simpa using hl.symm)
    subst this
    exact ⟨cells, rfl, hd⟩
  | (i, x) :: rest, cs, rs, [], cells, h, hd, hl, hv => by simp at hl
  | (i, x) :: rest, cs, rs, (i', v) :: vals, cells, h, hd, hl, hv => by
    obtain ⟨e, hx⟩ := hv 0 _ _ rfl rfl
    simp only at e hx
    subst e
    simp only [fillS] at h
    split at h
    · rename_i off size new hp hn
      split at h
      · rename_i hc
        have hden := cells_of_has hn hx
        have hln := denL_length hden
        have hlc := denL_length hd
        simp only [Array.length_toList] at hln hlc
        have hvs : v.cells.size = size := by omega
        have hb : off + size ≤ cells.size := by omega
        have h1 := fill_one v off size cells hvs hb
        have hden2 : denL M (cs.take off ++ new ++ cs.drop (off + size)) = some (v.cells.zipIdx.foldl (fun cs (c, j) => cs.setIfInBounds (off + j) c) cells).toList := by
          rw [h1]
          exact denL_append (denL_append (denL_take hd off) hden) (denL_drop hd (off + size))
        obtain ⟨out, ho, hr⟩ := fillS_sound (vals := vals) h hden2 (by simpa using hl) (fun j p q hp hq => hv (j + 1) p q (by simpa using hp) (by simpa using hq))
        refine ⟨out, ?_, hr⟩
        rw [Instr.fill, hp]
        simp only
        rw [if_neg (by simp; omega)]
        exact ho
      · cases h
    · cases h

def placesOf (P : Program) (t : TypeId) : Option (List (Nat × Nat)) :=
  match P.underlying t with
  | some (.struct fs) => fs.toList.mapM fun f => (sizeT P f.type).map fun n => (f.offset, n)
  | some (.array n e) => (sizeT P e).map fun z => (List.range n).map fun i => (i * z, z)
  | _ => none

def kAgg (k : SV → Prop) (cs : Option (List SV)) : Prop :=
  match cs with
  | some cs => k (.agg cs)
  | none => False
def pvBuildZ (parts : List (Nat × SV)) (k : SV → Prop) (z : Option (List Value)) (pl : Option (List (Nat × Nat))) : Prop :=
  match z, pl with
  | some z, some pl => kAgg k (fillS pl (z.map .val) parts)
  | _, _ => False
def pvBuild (P : Program) (t : TypeId) (parts : List (Nat × SV)) (k : SV → Prop) : Prop := pvBuildZ parts k (zeroT P t) (placesOf P t)

theorem run_mapM_list {P : Program} {α β : Type} (f : α → Sem β) (g : α → β) (w : World) : ∀ (l : List α), (∀ x ∈ l, (f x).run P w = .ok (g x) w) → (l.mapM f).run P w = .ok (l.map g) w
  | [], _ => by simp
  | x :: l, h => by
    have h0 := h x (by simp)
    have ih := run_mapM_list f g w l (fun y hy => h y (by simp [hy]))
    simp [List.mapM_cons, h0, ih]
theorem run_mapM_array {P : Program} {α β : Type} (f : α → Sem β) (g : α → β) (w : World) (xs : Array α) (h : ∀ x ∈ xs.toList, (f x).run P w = .ok (g x) w) : (xs.mapM f).run P w = .ok (xs.map g) w := by
  have h1 := run_mapM_list (P := P) f g w xs.toList h
  have e : xs.mapM f = (List.toArray <$> xs.toList.mapM f) := by
    have := List.mapM_toArray (m := Sem) (f := f) (l := xs.toList)
    rwa [Array.toArray_toList] at this
  rw [e, Sem.run_map, h1]
  simp only [Result.andThen_ok]
  congr 1
  apply Array.ext'
  simp

theorem mapM_some {α β : Type} {f : α → Option β} : ∀ {l : List α} {r : List β}, l.mapM f = some r → ∀ d : β, r = l.map (fun x => (f x).getD d) ∧ ∀ x ∈ l, (f x).isSome = true
  | [], r, h, d => by simp at h; subst h; simp
  | x :: l, r, h, d => by
    simp only [List.mapM_cons, Option.bind_eq_bind, Option.bind_eq_some_iff, Option.pure_def, Option.some.injEq] at h
    obtain ⟨y, hy, ys, hys, rfl⟩ := h
    obtain ⟨h1, h2⟩ := mapM_some hys d
    refine ⟨by simp [hy, ← h1], fun z hz => ?_⟩
    rcases List.mem_cons.1 hz with rfl | hz
    · simp [hy]
    · exact h2 z hz

theorem build_run {P : Program} {t : TypeId} {z : List Value} {pl : List (Nat × Nat)} (hz : zeroT P t = some z) (hp : placesOf P t = some pl) {vals : Array (Nat × Value)} {out : Array Value}
    (h : Instr.fill (pl[·]?) z.toArray vals.toList = some out) (w : World) : (Instr.build t vals).run P w = .ok (.agg out) w := by
  simp only [zeroT, Option.bind_eq_some_iff, Option.map_eq_some_iff] at hz
  obtain ⟨i, hi, zv, hzv, rfl⟩ := hz
  have hzero : (zeroValue t).run P w = .ok zv w := by simp [zeroValue, typeInfo, hi, hzv]
  unfold placesOf at hp
  split at hp
  · rename_i fs hu
    obtain ⟨e, hs⟩ := mapM_some hp (0, 0)
    have hm : (fs.mapM fun f => (do pure (f.offset, ← sizeOf f.type) : Sem (Nat × Nat))).run P w = .ok pl.toArray w := by
      rw [run_mapM_array (P := P) _ (fun f => ((sizeT P f.type).map fun n => (f.offset, n)).getD (0, 0)) w fs]
      · rw [e]; congr 1; apply Array.ext'; simp
      · intro f hf
        obtain ⟨n, hn⟩ := Option.isSome_iff_exists.1 (hs f hf)
        simp only [Option.map_eq_some_iff] at hn
        obtain ⟨m, hm, rfl⟩ := hn
        simp [run_sizeOf_T hm, hm]
    simp only [Instr.build, Sem.run_bind, hzero, Result.andThen_ok, run_underlying hu, hm]
    simp only [List.getElem?_toArray]
    rw [Array.toArray_toList] at h
    simp [h]
  · rename_i n e hu
    simp only [Option.map_eq_some_iff] at hp
    obtain ⟨s, hs, rfl⟩ := hp
    have hfill : ∀ (l : List (Nat × Value)) (cells out : Array Value), Instr.fill (((List.range n).map fun i => (i * s, s))[·]?) cells l = some out → Instr.fill (fun i => some (i * s, s)) cells l = some out := by
      intro l
      induction l with
      | nil => intro cells out h; simpa [Instr.fill] using h
      | cons p l ih =>
        obtain ⟨i, v⟩ := p
        intro cells out h
        simp only [Instr.fill] at h ⊢
        by_cases hi : i < n
        · have : ((List.range n).map fun i => (i * s, s))[i]? = some (i * s, s) := by simp [hi]
          rw [this] at h
          simp only at h
          split at h
          · cases h
          · rename_i hc; rw [if_neg hc]; exact ih _ _ h
        · have : ((List.range n).map fun i => (i * s, s))[i]? = none := by simp; omega
          rw [this] at h
          cases h
    have h' := hfill _ _ _ h
    rw [Array.toArray_toList] at h'
    simp [Instr.build, hzero, run_underlying hu, run_sizeOf_T hs, h']
  · cases hp


/-! ## one operation that only looks -/
def SV.val? : SV → Option Value
  | .val v => some v
  | _ => none
def pvBin (P : Program) (G : Prop) (o : BinOp) (t : TypeId) (x y : SV) (k : SV → Prop) : Prop :=
  match x, y with
  | .val v, .val u => vBin P G o t v u (kVal k)
  | _, _ => False
def pvUn (G : Prop) (o : UnOp) (x : SV) (k : SV → Prop) : Prop :=
  match x with
  | .val v => vUn G o v (kVal k)
  | _ => False
def kOptV (k : SV → Prop) (c : Option Value) : Prop :=
  match c with
  | some v => k (.val v)
  | none => False
def pvExtract (i : Nat) (x : SV) (k : SV → Prop) : Prop :=
  match x with
  | .tup cs => kOpt k cs[i]?
  | .val (.tuple vs) => kOptV k vs[i]?
  | _ => False
def pvNil (x : SV) (k : SV → Prop) : Prop :=
  match x with
  | .ptr i off => k (.ptr i off)
  | .rptr i off => k (.rptr i off)
  | .xptr A off => k (.xptr A off)
  | .val (.pointer (some q)) => k (.val (.pointer (some q)))
  | _ => False
def pvLen1 (P : Program) (F : Fr) (M : List Res) (G : Prop) (k : SV → Prop) (args : List Operand) (ts : List TypeId) : Prop :=
  match args, ts with
  | [x], [t] => (G → (ev F x).grd) ∧ pvLen P M t (ev F x).core k
  | _, _ => False
def pvMM (F : Fr) (G : Prop) (mx : Bool) (k : SV → Prop) (args : List Operand) : Prop :=
  match args with
  | [x, y] => (G → (ev F x).grd ∧ (ev F y).grd) ∧ pvMinMax mx (ev F x).core (ev F y).core k
  | _ => False
def pvCallee (P : Program) (F : Fr) (M : List Res) (G : Prop) (args : List Operand) (ts : List TypeId) (k : SV → Prop) (c : Callee) : Prop :=
  match c with
  | .builtin .len => pvLen1 P F M G k args ts
  | .builtin .min => pvMM F G false k args
  | .builtin .max => pvMM F G true k args
  | _ => False
def coreOf (F : Fr) (o : Operand) : SV := (ev F o).core
def grdOf (F : Fr) (o : Operand) : Prop := (ev F o).grd
def grdAll (F : Fr) : List Operand → Prop
  | [] => True
  | o :: r => (ev F o).grd ∧ grdAll F r
theorem grdAll_mem {F : Fr} : ∀ {l : List Operand}, grdAll F l → ∀ o ∈ l, (ev F o).grd
  | _ :: _, h, o, ho => by
    rcases List.mem_cons.1 ho with rfl | ho
    · exact h.1
    · exact grdAll_mem h.2 o ho
def cores (F : Fr) : List Operand → List SV
  | [] => []
  | o :: r => (ev F o).core :: cores F r
theorem cores_eq (F : Fr) : ∀ l : List Operand, cores F l = l.map fun o => (ev F o).core
  | [] => rfl
  | o :: r => by simp [cores, cores_eq F r]
def partsOf (F : Fr) : List (Nat × Operand) → List (Nat × SV)
  | [] => []
  | (i, o) :: r => (i, (ev F o).core) :: partsOf F r
theorem partsOf_eq (F : Fr) : ∀ l : List (Nat × Operand), partsOf F l = l.map fun p => (p.1, (ev F p.2).core)
  | [] => rfl
  | (i, o) :: r => by simp [partsOf, partsOf_eq F r]
def grdParts (F : Fr) : List (Nat × Operand) → Prop
  | [] => True
  | (_, o) :: r => (ev F o).grd ∧ grdParts F r
theorem grdParts_mem {F : Fr} : ∀ {l : List (Nat × Operand)}, grdParts F l → ∀ p ∈ l, (ev F p.2).grd
  | (_, o) :: _, h, p, hp => by
    rcases List.mem_cons.1 hp with rfl | hp
    · exact h.1
    · exact grdParts_mem h.2 p hp
def grdO (F : Fr) : Option Operand → Prop
  | none => True
  | some o => (ev F o).grd
def coreO (F : Fr) : Option Operand → Option SV
  | none => none
  | some o => some (ev F o).core
theorem coreO_eq (F : Fr) (o : Option Operand) : coreO F o = o.map fun o => (ev F o).core := by cases o <;> rfl
theorem eqGuard_of_vBin {P : Program} {G : Prop} {o : BinOp} {t : TypeId} {v u : Value} {k : Value → Prop} (h : vBin P G o t v u k) (x y : Operand) (w : World) :
    (eqGuard o t x y v u).run P w = .ok () w := by
  cases v <;> cases u
  case agg.agg a b =>
    cases o <;> first | (exact h.elim) | (obtain ⟨r, h1, h⟩ := h; exact run_eqGuard_agg w _ t x y a b h1.1)
  all_goals first | (simp [eqGuard]; done) | (simp [vBin] at h; done) | (cases o <;> simp [eqGuard])

/-- a slice, as the pointer to an array -/
def pvArrV (M : List Res) (G : Prop) (n : Nat) (x : SV) (k : SV → Prop) : Prop :=
  match x with
  | .sl i off len _ => (G → n ≤ len) ∧ k (.ptr i off)
  | .val (.slice A len _) => (G → n ≤ len) ∧ k (.val (.pointer A))
  | .row i => pvArrR G n i k M[i]?
  | _ => False
where pvArrR (G : Prop) (n i : Nat) (k : SV → Prop) (r : Option Res) : Prop :=
  match r with
  | some (.row A _ _ _ len _) => (G → n ≤ len ∧ A.isSome = true) ∧ k (.rptr i 0)
  | _ => False
def pvArrT (M : List Res) (G : Prop) (x : SV) (k : SV → Prop) (d : Option TypeDesc) : Prop :=
  match d with
  | some (.array n _) => pvArrV M G n x k
  | _ => False
def pvArr (P : Program) (M : List Res) (G : Prop) (t : TypeId) (x : SV) (k : SV → Prop) : Prop := pvArrT M G x k (P.underlying t)
theorem pvArr_sound {P : Program} {M : List Res} {G : Prop} {t : TypeId} {x : SV} {k : SV → Prop} (h : pvArr P M G t x k) :
    ∃ r, k r ∧ ∀ (w : World) (v : Value), G → has M x v → ∃ y, (Instr.arrayAt t v).run P w = .ok y w ∧ has M r y := by
  unfold pvArr pvArrT at h
  split at h
  · rename_i n e ht
    unfold pvArrV pvArrV.pvArrR at h
    split at h
    · rename_i i off len cap
      refine ⟨_, h.2, fun w v g hv => ?_⟩
      have hl := h.1 g
      cases hi : M[i]? with
      | none => simp [has, den, hi] at hv
      | some r =>
        cases r <;> simp [has, den, hi, Res.slAt] at hv
        all_goals
          subst hv
          refine ⟨_, by simp [Instr.arrayAt, run_underlying ht, show ¬ len < n by omega] <;> rfl, ?_⟩
          simp [has, den, hi, Res.ptrAt]
    · rename_i A len cap
      refine ⟨_, h.2, fun w v g hv => ?_⟩
      have hl := h.1 g
      simp only [has] at hv
      subst hv
      exact ⟨_, by simp [Instr.arrayAt, run_underlying ht, show ¬ len < n by omega] <;> rfl, rfl⟩
    · rename_i i
      split at h
      · rename_i A cap e' z len xs hi
        refine ⟨_, h.2, fun w v g hv => ?_⟩
        obtain ⟨hl, hA⟩ := h.1 g
        simp [has, den, hi, Res.rowVal] at hv
        subst hv
        obtain ⟨a, rfl⟩ := Option.isSome_iff_exists.1 hA
        refine ⟨_, by simp [Instr.arrayAt, run_underlying ht, show ¬ len < n by omega] <;> rfl, ?_⟩
        simp [has, den, hi, Res.rptrAt, add_zero]
      · exact h.elim
    · exact h.elim
  · exact h.elim

/-- what 'o' tells of frame F, resources M and what stays, Z, under guard G -/
def pv (P : Program) (F : Fr) (M : List Res) (Z : Heap) (G : Prop) (op : Op) (k : SV → Prop) : Prop :=
  match op with
  | .move x | .assign x => (G → (ev F x).grd) ∧ k (ev F x).core
  | .pick c a b => (G → (ev F c).grd) ∧ pvPick G (ev F c).core (ev F a) (ev F b) k
  | .load t a => (G → (ev F a).grd) ∧ pvLoad P M Z G t (ev F a).core k
  | .binOp o t x y _ => (G → (ev F x).grd ∧ (ev F y).grd) ∧ pvBin P G o t (ev F x).core (ev F y).core k
  | .unOp o _ x => (G → (ev F x).grd) ∧ pvUn G o (ev F x).core k
  | .convert s d x => (G → (ev F x).grd) ∧ pvConv P M Z G s d (ev F x).core k
  | .fieldAddr s x f => (G → (ev F x).grd) ∧ pvFieldAddr P s (ev F x).core f k
  | .field s x f => (G → (ev F x).grd) ∧ pvField P s (ev F x).core f k
  | .indexAddr t x i => (G → (ev F x).grd ∧ (ev F i).grd) ∧ pvIndexAddr P M G t (ev F x).core (ev F i).core k
  | .index t x i => (G → (ev F x).grd ∧ (ev F i).grd) ∧ pvIndex P G t (ev F x).core (ev F i).core k
  | .slice t x lo hi mx => (G → (ev F x).grd ∧ grdO F lo ∧ grdO F hi) ∧ mx = none ∧ pvSlice P G t (ev F x).core (coreO F lo) (coreO F hi) none k
  | .extract x i => (G → (ev F x).grd) ∧ pvExtract i (ev F x).core k
  | .makeFunc f first cap => first = #[] ∧ (G → grdAll F cap.toList) ∧ (cores F cap.toList).all SV.known = true ∧ k (.fn f (cores F cap.toList))
  | .nilCheck x => (G → (ev F x).grd) ∧ pvNil (ev F x).core k
  | .build t parts => (G → grdParts F parts.toList) ∧ pvBuild P t (partsOf F parts.toList) k
  | .sliceToArrayPointer t x => (G → (ev F x).grd) ∧ pvArr P M G t (ev F x).core k
  | .lookup t x i ok => (G → (ev F x).grd ∧ (ev F i).grd) ∧ pvLookup P M Z G t (ev F x).core (ev F i).core ok k
  | .call c => pvCallee P F M G c.args.toList c.argTypes.toList k c.callee
  | _ => False

theorem denL_args {M : List Res} {N : Nat} {F : Fr} {a : Act} (hF : FrameOk M N F a.tmps) : ∀ {l : List Operand}, (∀ o ∈ l, (ev F o).grd) → (l.map fun o => (ev F o).core).all SV.known = true →
    denL M (l.map fun o => (ev F o).core) = some (l.map a.eval)
  | [], _, _ => rfl
  | o :: l, hg, hk => by
    simp only [List.map_cons, List.all_cons, Bool.and_eq_true] at hk
    have h0 := has_known (has_core (ev_has hF o) (hg o (by simp))) hk.1
    simp [denL, h0, denL_args hF (l := l) (fun o ho => hg o (by simp [ho])) hk.2]

theorem hasO_map {M : List Res} {N : Nat} {F : Fr} {a : Act} (hF : FrameOk M N F a.tmps) {lo : Option Operand} (hg : ∀ o, lo = some o → (ev F o).grd) :
    hasO M (lo.map fun o => (ev F o).core) (lo.map a.eval) := by
  cases lo with
  | none => trivial
  | some o => exact has_core (ev_has hF o) (hg o rfl)

theorem pv_sound {P : Program} {F : Fr} {M : List Res} {Z : Heap} {G : Prop} {o : Oper} {k : SV → Prop} (h : pv P F M Z G o.op k) :
    ∃ r, k r ∧ ∀ (E : Env) (N : Nat) (a : Act) (w : World), FrameOk M N F a.tmps → Mem E M Z w → G → ∃ x, (execOp a.eval o).run P w = .ok (.value x) w ∧ has M r x := by
  obtain ⟨dst, op, ty, pos, after, gd⟩ := o
  simp only at h
  unfold pv at h
  split at h
  · rename_i x
    refine ⟨_, h.2, fun E N a w hF hm g => ⟨_, by simp [execOp] <;> rfl, has_core (ev_has hF x) (h.1 g)⟩⟩
  · rename_i x
    refine ⟨_, h.2, fun E N a w hF hm g => ⟨_, by simp [execOp] <;> rfl, has_core (ev_has hF x) (h.1 g)⟩⟩
  · rename_i c x y
    obtain ⟨r, hk, hr⟩ := pvPick_sound (M := M) h.2
    refine ⟨r, hk, fun E N a w hF hm g => ?_⟩
    obtain ⟨cb, e, hh⟩ := hr _ _ _ g (has_core (ev_has hF c) (h.1 g)) (ev_has hF x) (ev_has hF y)
    exact ⟨_, by simp [execOp, e, asBool] <;> rfl, hh⟩
  · rename_i t x
    obtain ⟨r, hk, hr⟩ := pvLoad_sound h.2
    refine ⟨r, hk, fun E N a w hF hm g => ?_⟩
    obtain ⟨v, e, hh⟩ := hr E w _ hm g (has_core (ev_has hF x) (h.1 g))
    exact ⟨v, by simp [execOp, e], hh⟩
  · rename_i bo t x y t2
    obtain ⟨h1, h2⟩ := h
    unfold pvBin kVal at h2
    split at h2
    · rename_i v u hv hu
      obtain ⟨r, hk, hr⟩ := vBin_sound h2
      refine ⟨_, hk, fun E N a w hF hm g => ?_⟩
      have e1 := has_core (ev_has hF x) (h1 g).1
      have e2 := has_core (ev_has hF y) (h1 g).2
      rw [hv] at e1
      rw [hu] at e2
      simp only [has] at e1 e2
      exact ⟨r, by simp [execOp, ← e1, ← e2, eqGuard_of_vBin h2, hr g w], rfl⟩
    · exact h2.elim
  · rename_i uo t x
    obtain ⟨h1, h2⟩ := h
    unfold pvUn kVal at h2
    split at h2
    · rename_i v hv
      obtain ⟨r, hk, hr⟩ := vUn_sound (P := P) h2
      refine ⟨_, hk, fun E N a w hF hm g => ?_⟩
      have e1 := has_core (ev_has hF x) (h1 g)
      rw [hv] at e1
      simp only [has] at e1
      exact ⟨r, by simp [execOp, ← e1, hr g w], rfl⟩
    · exact h2.elim
  · rename_i s d x
    obtain ⟨r, hk, hr⟩ := pvConv_sound h.2
    refine ⟨r, hk, fun E N a w hF hm g => ?_⟩
    obtain ⟨v, e, hh⟩ := hr E w _ hm g (has_core (ev_has hF x) (h.1 g))
    exact ⟨v, by simp [execOp, e], hh⟩
  · rename_i s x f
    obtain ⟨r, hk, hr⟩ := pvFieldAddr_sound (M := M) h.2
    refine ⟨r, hk, fun E N a w hF hm g => ?_⟩
    obtain ⟨v, e, hh⟩ := hr w _ (has_core (ev_has hF x) (h.1 g))
    exact ⟨v, by simp [execOp, e], hh⟩
  · rename_i s x f
    obtain ⟨r, hk, hr⟩ := pvField_sound (M := M) h.2
    refine ⟨r, hk, fun E N a w hF hm g => ?_⟩
    obtain ⟨v, e, hh⟩ := hr w _ (has_core (ev_has hF x) (h.1 g))
    exact ⟨v, by simp [execOp, e], hh⟩
  · rename_i t x i
    obtain ⟨r, hk, hr⟩ := pvIndexAddr_sound h.2
    refine ⟨r, hk, fun E N a w hF hm g => ?_⟩
    obtain ⟨v, e, hh⟩ := hr w _ _ hm.own g (has_core (ev_has hF x) (h.1 g).1) (has_core (ev_has hF i) (h.1 g).2)
    exact ⟨v, by simp [execOp, e], hh⟩
  · rename_i t x i
    obtain ⟨r, hk, hr⟩ := pvIndex_sound (M := M) h.2
    refine ⟨r, hk, fun E N a w hF hm g => ?_⟩
    obtain ⟨v, e, hh⟩ := hr w _ _ g (has_core (ev_has hF x) (h.1 g).1) (has_core (ev_has hF i) (h.1 g).2)
    exact ⟨v, by simp [execOp, e], hh⟩
  · rename_i t x lo hi mx
    obtain ⟨h1, rfl, h2⟩ := h
    obtain ⟨r, hk, hr⟩ := pvSlice_sound (M := M) h2
    refine ⟨r, hk, fun E N a w hF hm g => ?_⟩
    rw [coreO_eq, coreO_eq] at hr
    obtain ⟨v, e, hh⟩ := hr w _ _ _ none g (has_core (ev_has hF x) (h1 g).1) (hasO_map hF (fun o e => by have := (h1 g).2.1; rw [e] at this; exact this)) (hasO_map hF (fun o e => by have := (h1 g).2.2; rw [e] at this; exact this)) trivial
    exact ⟨v, by simp [execOp, e], hh⟩
  · rename_i x i
    obtain ⟨h1, h2⟩ := h
    unfold pvExtract kOpt kOptV at h2
    split at h2
    · rename_i cs hx
      split at h2
      · rename_i c hc
        refine ⟨_, h2, fun E N a w hF hm g => ?_⟩
        have e1 := has_core (ev_has hF x) (h1 g)
        rw [hx] at e1
        simp only [has, den, Option.map_eq_some_iff] at e1
        obtain ⟨vs, hd, e1⟩ := e1
        obtain ⟨v, hv, hh⟩ := denL_get hd i c hc
        exact ⟨v, by simp [execOp, ← e1, Instr.extract, hv], has_of hh⟩
      · exact h2.elim
    · rename_i vs hx
      split at h2
      · rename_i v hv
        refine ⟨_, h2, fun E N a w hF hm g => ?_⟩
        have e1 := has_core (ev_has hF x) (h1 g)
        rw [hx] at e1
        simp only [has] at e1
        exact ⟨v, by simp [execOp, ← e1, Instr.extract, hv], rfl⟩
      · exact h2.elim
    · exact h2.elim
  · rename_i f first cap
    obtain ⟨rfl, h1, h2, h3⟩ := h
    refine ⟨_, h3, fun E N a w hF hm g => ?_⟩
    rw [cores_eq] at h2
    have hd := denL_args hF (grdAll_mem (h1 g)) h2
    rw [cores_eq]
    refine ⟨.func f #[] (cap.map a.eval), by simp [execOp, Instr.makeFunc], ?_⟩
    simp only [has, den, hd, Option.map_some, Option.some.injEq, Value.func.injEq, true_and]
    apply Array.ext'
    simp
  · rename_i x
    obtain ⟨h1, h2⟩ := h
    unfold pvNil at h2
    split at h2
    · rename_i i off hx
      refine ⟨_, h2, fun E N a w hF hm g => ?_⟩
      have e1 := has_core (ev_has hF x) (h1 g)
      rw [hx] at e1
      obtain ⟨b, e, _⟩ := ptr_form e1
      exact ⟨_, by simp [execOp, e] <;> rfl, by rw [← e]; exact e1⟩
    · rename_i i off hx
      refine ⟨_, h2, fun E N a w hF hm g => ?_⟩
      have e1 := has_core (ev_has hF x) (h1 g)
      rw [hx] at e1
      obtain ⟨b, e, _⟩ := rptr_form e1
      exact ⟨_, by simp [execOp, e] <;> rfl, by rw [← e]; exact e1⟩
    · rename_i A off hx
      refine ⟨_, h2, fun E N a w hF hm g => ?_⟩
      have e1 := has_core (ev_has hF x) (h1 g)
      rw [hx] at e1
      have e2 := e1
      simp only [has, den, Option.map_eq_some_iff] at e2
      obtain ⟨ad, rfl, e⟩ := e2
      exact ⟨_, by simp [execOp, ← e] <;> rfl, by rw [e]; exact e1⟩
    · rename_i q hx
      refine ⟨_, h2, fun E N a w hF hm g => ?_⟩
      have e1 := has_core (ev_has hF x) (h1 g)
      rw [hx] at e1
      simp only [has] at e1
      exact ⟨_, by simp [execOp, ← e1] <;> rfl, rfl⟩
    · exact h2.elim
  · rename_i t parts
    obtain ⟨h1, h2⟩ := h
    unfold pvBuild pvBuildZ kAgg at h2
    rw [partsOf_eq] at h2
    split at h2
    · rename_i z pl hz hp
      split at h2
      · rename_i cs hf
        refine ⟨_, h2, fun E N a w hF hm g => ?_⟩
        obtain ⟨out, ho, hd⟩ := fillS_sound (M := M) (vals := (parts.map fun p => (p.1, a.eval p.2)).toList) (cells := z.toArray) hf (by simpa using denL_vals z) (by simp) (by
          intro j p q hp' hq
          simp only [Array.toList_map, List.getElem?_map, Option.map_eq_some_iff] at hp' hq
          obtain ⟨p0, hp0, rfl⟩ := hp'
          obtain ⟨q0, hq0, rfl⟩ := hq
          rw [hp0] at hq0; cases hq0
          exact ⟨rfl, has_core (ev_has hF p0.2) (grdParts_mem (h1 g) p0 (List.mem_of_getElem? hp0))⟩)
        exact ⟨.agg out, by simp [execOp, build_run hz hp ho w], by simp [has, den, hd]⟩
      · exact h2.elim
    · exact h2.elim
  · rename_i t x
    obtain ⟨r, hk, hr⟩ := pvArr_sound (M := M) h.2
    refine ⟨r, hk, fun E N a w hF hm g => ?_⟩
    obtain ⟨v, e, hh⟩ := hr w _ g (has_core (ev_has hF x) (h.1 g))
    exact ⟨v, by simp [execOp, e], hh⟩
  · rename_i t x i ok
    obtain ⟨r, hk, hr⟩ := pvLookup_sound h.2
    refine ⟨r, hk, fun E N a w hF hm g => ?_⟩
    obtain ⟨v, e, hh⟩ := hr E w _ _ hm g (has_core (ev_has hF x) (h.1 g).1) (has_core (ev_has hF i) (h.1 g).2)
    exact ⟨v, by simp [execOp, e], hh⟩
  · rename_i c
    obtain ⟨callee, args, argTypes⟩ := c
    simp only at h
    unfold pvCallee pvLen1 pvMM at h
    split at h
    · split at h
      · rename_i x t hx ht
        obtain rfl : args = #[x] := Array.ext' (by simpa using hx)
        obtain rfl : argTypes = #[t] := Array.ext' (by simpa using ht)
        obtain ⟨r, hk, hr⟩ := pvLen_sound (M := M) (ty := ty) h.2
        refine ⟨r, hk, fun E N a w hF hm g => ?_⟩
        obtain ⟨v, e, hh⟩ := hr E Z w _ hm (has_core (ev_has hF x) (h.1 g))
        exact ⟨v, by simp [execOp, resolve, invoke, builtin, e], hh⟩
      · exact h.elim
    · split at h
      · rename_i x y hxy
        obtain rfl : args = #[x, y] := Array.ext' (by simpa using hxy)
        obtain ⟨h1, h2⟩ := h
        unfold pvMinMax at h2
        split at h2
        · rename_i kd m kd' n hx hy
          refine ⟨_, h2, fun E N a w hF hm g => ?_⟩
          have e1 := has_core (ev_has hF x) (h1 g).1
          have e2 := has_core (ev_has hF y) (h1 g).2
          rw [hx] at e1
          rw [hy] at e2
          simp only [has] at e1 e2
          refine ⟨_, by simp [execOp, resolve, invoke, builtin, ← e1, ← e2, Builtin.min_, Builtin.min2] <;> rfl, ?_⟩
          simp only [has]
          congr 1
          simp only [Bool.false_eq_true, if_false]
          split <;> omega
        · exact h2.elim
      · exact h.elim
    · split at h
      · rename_i x y hxy
        obtain rfl : args = #[x, y] := Array.ext' (by simpa using hxy)
        obtain ⟨h1, h2⟩ := h
        unfold pvMinMax at h2
        split at h2
        · rename_i kd m kd' n hx hy
          refine ⟨_, h2, fun E N a w hF hm g => ?_⟩
          have e1 := has_core (ev_has hF x) (h1 g).1
          have e2 := has_core (ev_has hF y) (h1 g).2
          rw [hx] at e1
          rw [hy] at e2
          simp only [has] at e1 e2
          refine ⟨_, by simp [execOp, resolve, invoke, builtin, ← e1, ← e2, Builtin.max_, Builtin.max2] <;> rfl, ?_⟩
          simp only [has]
          congr 1
          simp only [if_true]
          split <;> omega
        · exact h2.elim
      · exact h.elim
    · exact h.elim
  · exact h.elim

end Go.SX
