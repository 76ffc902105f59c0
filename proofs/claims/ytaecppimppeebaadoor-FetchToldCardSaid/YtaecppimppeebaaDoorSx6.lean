/- A small layer for proofs about calls, part 6: one operation that only looks. -/
import Derived.Test.YtaecppimppeebaaDoorSx5
import Derived.Laws.BytesString
namespace Go.SX
open Go

/-- '&&' and '||': which of two is taken -/
def pvPickV (G : Prop) (ga gb : Prop) (k : SV → Prop) (c a b : SV) : Prop :=
  match c, a, b with
  | .val (.bool cb), .val (.bool x), .val (.bool y) => (G → (cb = true → ga) ∧ (cb = false → gb)) ∧ k (.val (.bool (bif cb then x else y)))
  | _, _, _ => False
def pvPick (G : Prop) (c a b : SV) (k : SV → Prop) : Prop := pvPickV G a.grd b.grd k c a.core b.core
theorem pvPick_sound {M : List Res} {G : Prop} {c a b : SV} {k : SV → Prop} (h : pvPick G c a b k) :
    ∃ r, k r ∧ ∀ (x y z : Value), G → has M c x → has M a y → has M b z → ∃ cb, x = .bool cb ∧ has M r (if cb then y else z) := by
  unfold pvPick pvPickV at h
  split at h
  · rename_i cb x y ha hb
    refine ⟨_, h.2, fun v u t g hc hy hz => ?_⟩
    obtain ⟨h1, h2⟩ := h.1 g
    simp only [has] at hc
    subst hc
    refine ⟨cb, rfl, ?_⟩
    cases cb with
    | true => have := has_core hy (h1 rfl); rw [ha] at this; simpa using this
    | false => have := has_core hz (h2 rfl); rw [hb] at this; simpa using this
  · exact h.elim

def byteV (c : UInt8) : Value := .int .u8 c.toNat

def pvConvC (G : Prop) (n off : Nat) (k : SV → Prop) (q : Option Res) : Prop :=
  match q with
  | some (.blk _ cs _) => ∃ l : List UInt8, (G → l.length = n ∧ (cs.drop off).take n = l.map fun c => .val (byteV c)) ∧ k (.val (.string (bs l)))
  | some (.arr _ xs _ _) => ∃ l : List UInt8, (G → l.length = n ∧ (xs.drop off).take n = l.map byteV) ∧ k (.val (.string (bs l)))
  | _ => False
def pvConvR (G : Prop) (k : SV → Prop) (q : Option Res) : Prop :=
  match q with
  | some (.row _ _ _ _ n xs) => ∃ l : List UInt8, (G → l.length = n ∧ xs = l.map byteV) ∧ k (.val (.string (bs l)))
  | _ => False
def pvConvB (M : List Res) (Z : Heap) (G : Prop) (x : SV) (k : SV → Prop) : Prop :=
  match x with
  | .val (.slice A n _) => ∃ l : List UInt8, (G → l.length = n ∧ Rds Z A 0 (l.map byteV)) ∧ k (.val (.string (bs l)))
  | .row r => pvConvR G k M[r]?
  | .sl r off n _ => pvConvC G n off k M[r]?
  | _ => False
def kVal (k : SV → Prop) (v : Value) : Prop := k (.val v)
def pvConvV (P : Program) (src dst : TypeId) (x : SV) (k : SV → Prop) : Prop :=
  match x with
  | .val v => vConv P src dst v (kVal k)
  | _ => False
def pvConvT (P : Program) (M : List Res) (Z : Heap) (G : Prop) (src dst : TypeId) (x : SV) (k : SV → Prop) (d : Option TypeDesc) : Prop :=
  match d with
  | some (.slice e) => P.underlying e = some (.int .u8) ∧ P.underlying dst = some .string ∧ pvConvB M Z G x k
  | _ => pvConvV P src dst x k
def pvConv (P : Program) (M : List Res) (Z : Heap) (G : Prop) (src dst : TypeId) (x : SV) (k : SV → Prop) : Prop := pvConvT P M Z G src dst x k (P.underlying src)

theorem foldl_push (l : List UInt8) : ∀ (r : ByteArray), (l.map fun c => ((c.toNat : Nat) : Int)).foldl (fun r n => r.push (UInt8.ofNat n.toNat)) r = ⟨r.data ++ l.toArray⟩ := by
  induction l with
  | nil => intro r; simp
  | cons c l ih =>
    intro r
    simp only [List.map_cons, List.foldl_cons]
    rw [ih]
    congr 1
    simp [ByteArray.push]
theorem run_bytes {P : Program} {w : World} {src dst e : TypeId} (hs : P.underlying src = some (.slice e)) (he : P.underlying e = some (.int .u8)) (hd : P.underlying dst = some .string)
    {A : Option Addr} {n c : Nat} {l : List UInt8} (hl : l.length = n) (hc : ∀ a, A = some a → ∀ (j : Nat) (u : Value), (l.map byteV)[j]? = some u → w.cell? (a.add j) = some u) (hA : A = none → n = 0) :
    (convert src dst (.slice A n c)).run P w = .ok (.string (bs l)) w := by
  rw [run_convert_bytes_string w src dst e A n c hs he hd]
  cases A with
  | none =>
    have := hA rfl
    subst this
    have : l = [] := List.eq_nil_of_length_eq_zero hl
    subst this
    rfl
  | some a =>
    subst hl
    have h1 := run_loadCells_list (P := P) w a (l.map byteV) (hc a rfl)
    rw [List.length_map] at h1
    have h2 : (l.map byteV) = (l.map fun c => ((c.toNat : Nat) : Int)).map (Value.int .u8) := by simp [byteV]
    rw [h2] at h1
    rw [run_bytesToString w a l.length c _ h1, foldl_push]
    simp [bs]

theorem pvConv_sound {P : Program} {M : List Res} {Z : Heap} {G : Prop} {src dst : TypeId} {x : SV} {k : SV → Prop} (h : pvConv P M Z G src dst x k) :
    ∃ r, k r ∧ ∀ (E : Env) (w : World) (v : Value), Mem E M Z w → G → has M x v → ∃ u, (convert src dst v).run P w = .ok u w ∧ has M r u := by
  unfold pvConv pvConvT pvConvB pvConvR pvConvC pvConvV at h
  split at h
  · rename_i e hs
    obtain ⟨he, hd, h⟩ := h
    split at h
    · rename_i A n c
      obtain ⟨l, h1, h⟩ := h
      refine ⟨_, h, fun E w v hm g hv => ?_⟩
      obtain ⟨hl, hr⟩ := h1 g
      simp only [has] at hv
      subst hv
      refine ⟨_, run_bytes hs he hd hl (fun a ha j u hu => ?_) (fun hA => ?_), rfl⟩
      · subst ha
        have := hr j u hu
        rw [Nat.zero_add] at this
        exact hm.frozen.cell this
      · subst hA
        cases l with
        | nil => simpa using hl.symm
        | cons a l => have := hr 0 (byteV a) rfl; simp [rd] at this
    · rename_i r
      split at h
      · rename_i A0 cap0 e0 z n xs hr
        obtain ⟨l, h1, h⟩ := h
        refine ⟨_, h, fun E w v hm g hv => ?_⟩
        obtain ⟨hl, rfl⟩ := h1 g
        have ho : w.ownsRow 0 e0 z (.slice A0 n cap0) n (l.map byteV) := hm.own r _ hr
        simp only [has, den, hr, Option.bind_some, Res.rowVal, Option.some.injEq] at hv
        subst hv
        refine ⟨_, run_bytes hs he hd hl (fun a ha j u hu => ?_) (fun hA => ?_), rfl⟩
        · subst ha
          obtain ⟨g2, cap2, he2, hc2, _⟩ := row_cell ho hu
          cases he2
          rw [lit_add]; simpa using hc2
        · subst hA
          obtain ⟨_, ⟨_, h⟩ | ⟨g', cap, cur, he, _⟩⟩ := ho
          · exact h
          · cases he
      · exact h.elim
    · rename_i r off n c
      split at h
      · rename_i b cs ty hr
        obtain ⟨l, h1, h⟩ := h
        refine ⟨_, h, fun E w v hm g hv => ?_⟩
        obtain ⟨hl, hcs⟩ := h1 g
        simp only [has, den, hr, Option.bind_some, Res.slAt, Option.some.injEq] at hv
        subst hv
        refine ⟨_, run_bytes hs he hd hl (fun a ha j u hu => ?_) (fun hA => by cases hA), rfl⟩
        cases ha
        rw [lit_add]
        have hj : j < l.length := by simpa using (List.getElem?_eq_some_iff.1 hu).1
        have h2 : ((cs.drop off).take n)[j]? = some (.val u) := by
          rw [hcs]
          rw [List.getElem?_map] at hu ⊢
          cases hlj : l[j]? with
          | none => rw [hlj] at hu; cases hu
          | some c => rw [hlj] at hu; simp at hu ⊢; exact hu
        rw [List.getElem?_take, if_pos (by omega), List.getElem?_drop] at h2
        obtain ⟨x, hx, hh⟩ := hm.cell hr h2
        simp only [has] at hh
        subst hh
        exact hx
      · rename_i b xs ty fr hr
        obtain ⟨l, h1, h⟩ := h
        refine ⟨_, h, fun E w v hm g hv => ?_⟩
        obtain ⟨hl, hcs⟩ := h1 g
        simp only [has, den, hr, Option.bind_some, Res.slAt, Option.some.injEq] at hv
        subst hv
        have hown : w.heap[b]? = some (.cells xs.toArray ty fr) := hm.own r _ hr
        refine ⟨_, run_bytes hs he hd hl (fun a ha j u hu => ?_) (fun hA => by cases hA), rfl⟩
        cases ha
        rw [lit_add]
        have hj : j < l.length := by simpa using (List.getElem?_eq_some_iff.1 hu).1
        rw [← hcs, List.getElem?_take, if_pos (by omega), List.getElem?_drop] at hu
        simp [World.cell?, hown, hu]
      · exact h.elim
    · exact h.elim
  · split at h
    · rename_i v
      obtain ⟨x, hk, hx⟩ := vConv_sound h
      refine ⟨_, hk, fun E w u _ _ hv => ?_⟩
      simp only [has] at hv
      subst hv
      exact ⟨_, hx w, rfl⟩
    · exact h.elim

/-! ## what the built-in functions tell -/
def pvLenR (k : SV → Prop) (q : Option Res) : Prop :=
  match q with
  | some (.row _ _ _ _ n _) => k (.val (.int .i64 n))
  | _ => False
def pvLenS (x : SV) (k : SV → Prop) : Prop :=
  match x with
  | .val (.string s) => k (.val (.int .i64 s.size))
  | _ => False
def pvLenL (M : List Res) (x : SV) (k : SV → Prop) : Prop :=
  match x with
  | .val (.slice _ n _) => k (.val (.int .i64 n))
  | .sl _ _ n _ => k (.val (.int .i64 n))
  | .row r => pvLenR k M[r]?
  | _ => False
def pvLenT (M : List Res) (x : SV) (k : SV → Prop) (d : Option TypeDesc) : Prop :=
  match d with
  | some .string => pvLenS x k
  | some (.slice _) => pvLenL M x k
  | some (.array n _) => k (.val (.int .i64 n))
  | _ => False
def pvLen (P : Program) (M : List Res) (t : TypeId) (x : SV) (k : SV → Prop) : Prop := pvLenT M x k (P.underlying t)
theorem pvLen_sound {P : Program} {M : List Res} {t ty : TypeId} {x : SV} {k : SV → Prop} (h : pvLen P M t x k) :
    ∃ r, k r ∧ ∀ (E : Env) (Z : Heap) (w : World) (v : Value), Mem E M Z w → has M x v → ∃ u, (Builtin.len_ #[t] ty #[v]).run P w = .ok u w ∧ has M r u := by
  unfold pvLen pvLenT pvLenS pvLenL pvLenR at h
  split at h
  · rename_i hu
    split at h
    · refine ⟨_, h, fun E Z w v _ hv => ?_⟩
      simp only [has] at hv
      subst hv
      exact ⟨_, by simp [Builtin.len_, run_underlying hu]; rfl, rfl⟩
    · exact h.elim
  · rename_i e hu
    split at h
    · refine ⟨_, h, fun E Z w v _ hv => ?_⟩
      simp only [has] at hv
      subst hv
      exact ⟨_, by simp [Builtin.len_, run_underlying hu]; rfl, rfl⟩
    · rename_i r off n c
      refine ⟨_, h, fun E Z w v _ hv => ?_⟩
      simp only [has, den] at hv
      cases hr : M[r]? with
      | none => rw [hr] at hv; cases hv
      | some q =>
        rw [hr] at hv
        cases q <;> simp [Res.slAt] at hv <;>
        · subst hv
          exact ⟨_, by simp [Builtin.len_, run_underlying hu]; rfl, rfl⟩
    · rename_i r
      split at h
      · rename_i A0 cap0 e0 z n xs hr
        refine ⟨_, h, fun E Z w v hm hv => ?_⟩
        simp only [has, den, hr, Option.bind_some, Res.rowVal, Option.some.injEq] at hv
        subst hv
        exact ⟨_, by simp [Builtin.len_, run_underlying hu]; rfl, rfl⟩
      · exact h.elim
    · exact h.elim
  · rename_i n e hu
    exact ⟨_, h, fun E Z w v _ hv => ⟨_, by simp [Builtin.len_, run_underlying hu]; rfl, rfl⟩⟩
  · exact h.elim

def pvMinMax (mx : Bool) (x y : SV) (k : SV → Prop) : Prop :=
  match x, y with
  | .val (.int kd a), .val (.int _ b) => k (.val (.int kd (if mx then max a b else min a b)))
  | _, _ => False

/-! ## a struct or an array written out -/
def zeroT (P : Program) (t : TypeId) : Option (List Value) := (P.info? t).bind fun i => i.zero.map fun z => z.cells.toList
def SV.cellsOf : SV → Option (List SV)
  | .any | .cnd _ _ | .tup _ => none
  | .agg cs => some cs
  | .val (.agg vs) => some (vs.toList.map .val)
  | x => some [x]
def fillS (places : List (Nat × Nat)) : List SV → List (Nat × SV) → Option (List SV)
  | cs, [] => some cs
  | cs, (i, x) :: rest => match places[i]?, x.cellsOf with
    | some (off, size), some new => if new.length = size ∧ off + size ≤ cs.length then fillS places (cs.take off ++ new ++ cs.drop (off + size)) rest else none
    | _, _ => none

theorem cells_of_has {M : List Res} {x : SV} {v : Value} {cs : List SV} (hc : x.cellsOf = some cs) (h : has M x v) : denL M cs = some v.cells.toList := by
  cases x with
  | any => cases hc
  | cnd => cases hc
  | tup => cases hc
  | agg ds =>
    cases hc
    simp only [has, den, Option.map_eq_some_iff] at h
    obtain ⟨vs, h1, rfl⟩ := h
    simpa [Value.cells] using h1
  | val u =>
    simp only [has] at h
    subst h
    cases u <;> simp only [SV.cellsOf] at hc <;> cases hc <;> simp [Value.cells, denL, den, denL_vals]
  | _ =>
    cases hc
    have h' : den M _ = some v := h
    have hcell : v.cells = #[v] := by
      cases v <;> first | rfl | skip
      exfalso
      simp only [den] at h'
      first
      | (simp only [Option.bind_eq_some_iff] at h'
         obtain ⟨q, _, h'⟩ := h'
         cases q <;> simp [Res.ptrAt, Res.rowVal, Res.rptrAt, Res.mapVal, Res.slAt] at h')
      | simp at h'
    simp [denL, h', hcell]

end Go.SX
