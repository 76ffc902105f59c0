/- A small layer for proofs about calls, part 5: operations that only look, all of them. -/
import Derived.Test.YtaecppimppeebaaDoorSx4
namespace Go.SX
open Go

theorem ptr_has {M : List Res} {i off b : Nat} {cs : List SV} {ty : TypeId} {x : Value} (hi : M[i]? = some (.blk b cs ty)) (h : has M (.ptr i off) x) : x = .pointer (some ⟨b, off, none⟩) := by
  simp [has, den, hi, Res.ptrAt] at h; exact h.symm
theorem ptr_form {M : List Res} {i off : Nat} {x : Value} (h : has M (.ptr i off) x) : ∃ b, x = .pointer (some ⟨b, off, none⟩) ∧ ∀ o, has M (.ptr i o) (.pointer (some ⟨b, o, none⟩)) := by
  simp only [has, den] at h
  cases hr : M[i]? with
  | none => rw [hr] at h; cases h
  | some r =>
    rw [hr] at h
    cases r <;> simp [Res.ptrAt] at h
    · rename_i b cs ty
      exact ⟨b, h.symm, fun o => by simp [has, den, hr, Res.ptrAt]⟩
    · rename_i b cs ty fr
      exact ⟨b, h.symm, fun o => by simp [has, den, hr, Res.ptrAt]⟩
theorem rptr_form {M : List Res} {i off : Nat} {x : Value} (h : has M (.rptr i off) x) : ∃ a : Addr, x = .pointer (some (a.add off)) ∧ ∀ o, has M (.rptr i o) (.pointer (some (a.add o))) := by
  simp only [has, den] at h
  cases hr : M[i]? with
  | none => rw [hr] at h; cases h
  | some r =>
    rw [hr] at h
    cases r <;> try (simp [Res.rptrAt] at h; done)
    simp [Res.rptrAt] at h
    obtain ⟨a, rfl, rfl⟩ := h
    exact ⟨a, rfl, fun o => by simp [has, den, hr, Res.rptrAt]⟩

/-! ## a field's place -/
def fieldOf (d : Option TypeDesc) (f : Nat) : Option Field :=
  match d with
  | some (.struct fs) => fs[f]?
  | _ => none
def pvFieldX (off : Nat) (x : SV) (k : SV → Prop) : Prop :=
  match x with
  | .ptr i o => k (.ptr i (o + off))
  | .rptr i o => k (.rptr i (o + off))
  | .xptr A o => k (.xptr A (o + off))
  | .val (.pointer (some q)) => k (.xptr (some q) off)
  | _ => False
def pvFieldZ (off : Nat) (x : SV) (k : SV → Prop) (z : Option Nat) : Prop :=
  match z with
  | some n => n ≠ 0 ∧ pvFieldX off x k
  | none => False
def pvFieldF (P : Program) (x : SV) (k : SV → Prop) (f : Option Field) : Prop :=
  match f with
  | some fd => pvFieldZ fd.offset x k (sizeT P fd.type)
  | none => False
def pvFieldAddr (P : Program) (s : TypeId) (x : SV) (f : Nat) (k : SV → Prop) : Prop := pvFieldF P x k (fieldOf (P.underlying s) f)
theorem fieldOf_some {d : Option TypeDesc} {f : Nat} {fd : Field} (h : fieldOf d f = some fd) : ∃ fs, d = some (.struct fs) ∧ fs[f]? = some fd := by
  unfold fieldOf at h
  split at h
  · exact ⟨_, rfl, h⟩
  · cases h
theorem pvFieldAddr_sound {P : Program} {M : List Res} {s : TypeId} {x : SV} {f : Nat} {k : SV → Prop} (h : pvFieldAddr P s x f k) :
    ∃ r, k r ∧ ∀ (w : World) (v : Value), has M x v → ∃ u, (Instr.fieldAt s v f).run P w = .ok u w ∧ has M r u := by
  unfold pvFieldAddr pvFieldF pvFieldZ pvFieldX at h
  split at h
  · rename_i fd hff
    obtain ⟨fs, hu, hf⟩ := fieldOf_some hff
    split at h
    · rename_i n hn
      obtain ⟨hn0, h⟩ := h
      have key : ∀ (w : World) (a : Addr), (Instr.fieldAt s (.pointer (some a)) f).run P w = .ok (.pointer (some (a.add fd.offset))) w := by
        intro w a
        simp only [Instr.fieldAt, Sem.run_bind, run_underlying hu, Result.andThen_ok, hf, Instr.sureAddr, Sem.run_pure, fieldPlace, run_sizeOf_T hn]
        rw [if_neg hn0]
        simp
      split at h
      · refine ⟨_, h, fun w v hv => ?_⟩
        obtain ⟨b, rfl, ho⟩ := ptr_form hv
        exact ⟨_, key w _, by rw [lit_add]; exact ho _⟩
      · refine ⟨_, h, fun w v hv => ?_⟩
        obtain ⟨a, rfl, ho⟩ := rptr_form hv
        exact ⟨_, key w _, by rw [add_add]; exact ho _⟩
      · rename_i A off
        refine ⟨_, h, fun w v hv => ?_⟩
        simp only [has, den, Option.map_eq_some_iff] at hv
        obtain ⟨ad, rfl, rfl⟩ := hv
        exact ⟨_, key w _, by rw [add_add]; rfl⟩
      · refine ⟨_, h, fun w v hv => ?_⟩
        simp only [has] at hv
        subst hv
        exact ⟨_, key w _, rfl⟩
      · exact h.elim
    · exact h.elim
  · exact h.elim

/-! ## an element's place -/
def pvIdxR (G : Prop) (n : Int) (z r : Nat) (k : SV → Prop) (q : Option Res) : Prop :=
  match q with
  | some (.row _ _ _ _ len _) => (G → 0 ≤ n ∧ n < len) ∧ k (.rptr r (n.toNat * z))
  | _ => False
def pvIdxS (M : List Res) (G : Prop) (n : Int) (x : SV) (k : SV → Prop) (z : Option Nat) : Prop :=
  match z, x with
  | some z, .val (.slice A len _) => (G → A.isSome = true ∧ 0 ≤ n ∧ n < len) ∧ k (.xptr A (n.toNat * z))
  | some z, .row r => pvIdxR G n z r k M[r]?
  | some z, .sl r off len _ => (G → 0 ≤ n ∧ n < len) ∧ k (.ptr r (off + n.toNat * z))
  | _, _ => False
def pvIdxA (G : Prop) (n : Int) (len : Nat) (x : SV) (k : SV → Prop) (z : Option Nat) : Prop :=
  match z, x with
  | some z, .ptr r off => (G → 0 ≤ n ∧ n < len) ∧ k (.ptr r (off + n.toNat * z))
  | some z, .rptr r off => (G → 0 ≤ n ∧ n < len) ∧ k (.rptr r (off + n.toNat * z))
  | some z, .xptr A off => (G → 0 ≤ n ∧ n < len) ∧ k (.xptr A (off + n.toNat * z))
  | _, _ => False
def pvIdxT (P : Program) (M : List Res) (G : Prop) (n : Int) (x : SV) (k : SV → Prop) (d : Option TypeDesc) : Prop :=
  match d with
  | some (.slice e) => pvIdxS M G n x k (sizeT P e)
  | some (.array len e) => pvIdxA G n len x k (sizeT P e)
  | _ => False
def pvIndexAddr (P : Program) (M : List Res) (G : Prop) (t : TypeId) (x i : SV) (k : SV → Prop) : Prop :=
  match i with
  | .val (.int _ n) => pvIdxT P M G n x k (P.underlying t)
  | _ => False

theorem pvIndexAddr_sound {P : Program} {M : List Res} {G : Prop} {t : TypeId} {x i : SV} {k : SV → Prop} (h : pvIndexAddr P M G t x i k) :
    ∃ r, k r ∧ ∀ (w : World) (v j : Value), (∀ (l : Nat) (r : Res), M[l]? = some r → OwnRes M w r) → G → has M x v → has M i j → ∃ u, (Instr.indexAt t v j).run P w = .ok u w ∧ has M r u := by
  unfold pvIndexAddr pvIdxT pvIdxS pvIdxA pvIdxR at h
  split at h
  · rename_i kd n
    split at h
    · rename_i e hu
      split at h
      · rename_i z A len c hz
        have key : ∀ (w : World) (a : Addr) (len c : Nat), 0 ≤ n → n < len → (Instr.indexAt t (.slice (some a) len c) (.int kd n)).run P w = .ok (.pointer (some (a.add (n.toNat * z)))) w := by
          intro w a len c h0 h1
          simp [Instr.indexAt, asIntOf, run_underlying hu, h0, h1, run_sizeOf_T hz]
        refine ⟨_, h.2, fun w v j _ g hv hj => ?_⟩
        obtain ⟨ha, h0, h1⟩ := h.1 g
        obtain ⟨ad, rfl⟩ := Option.isSome_iff_exists.1 ha
        simp only [has] at hv hj
        subst hv; subst hj
        exact ⟨_, key w ad len c h0 h1, rfl⟩
      · rename_i z r hz
        have key : ∀ (w : World) (a : Addr) (len c : Nat), 0 ≤ n → n < len → (Instr.indexAt t (.slice (some a) len c) (.int kd n)).run P w = .ok (.pointer (some (a.add (n.toNat * z)))) w := by
          intro w a len c h0 h1
          simp [Instr.indexAt, asIntOf, run_underlying hu, h0, h1, run_sizeOf_T hz]
        split at h
        · rename_i A0 cap0 e0 z0 len xs hr
          refine ⟨_, h.2, fun w v j hown g hv hj => ?_⟩
          obtain ⟨h0, h1⟩ := h.1 g
          have ho : w.ownsRow 0 e0 z0 (.slice A0 len cap0) len xs := hown r _ hr
          simp only [has, den, hr, Option.bind_some, Res.rowVal, Option.some.injEq] at hv
          subst hv
          simp only [has] at hj
          subst hj
          obtain ⟨_, ⟨_, rfl⟩ | ⟨g', cap, cur, he, _⟩⟩ := ho
          · omega
          · cases he
            exact ⟨_, key w _ len _ h0 h1, by simp [has, den, hr, Res.rptrAt]⟩
        · exact h.elim
      · rename_i z r off len c hz
        have key : ∀ (w : World) (a : Addr) (len c : Nat), 0 ≤ n → n < len → (Instr.indexAt t (.slice (some a) len c) (.int kd n)).run P w = .ok (.pointer (some (a.add (n.toNat * z)))) w := by
          intro w a len c h0 h1
          simp [Instr.indexAt, asIntOf, run_underlying hu, h0, h1, run_sizeOf_T hz]
        refine ⟨_, h.2, fun w v j _ g hv hj => ?_⟩
        obtain ⟨h0, h1⟩ := h.1 g
        simp only [has] at hj
        subst hj
        simp only [has, den] at hv
        cases hr : M[r]? with
        | none => rw [hr] at hv; cases hv
        | some q =>
          rw [hr] at hv
          cases q <;> simp [Res.slAt] at hv <;>
          · subst hv
            exact ⟨_, key w _ len c h0 h1, by rw [lit_add]; simp [has, den, hr, Res.ptrAt]⟩
      · exact h.elim
    · rename_i len e hu
      have key : ∀ (z : Nat), sizeT P e = some z → ∀ (w : World) (a : Addr), 0 ≤ n → n < len → (Instr.indexAt t (.pointer (some a)) (.int kd n)).run P w = .ok (.pointer (some (a.add (n.toNat * z)))) w := by
        intro z hz w a h0 h1
        simp [Instr.indexAt, asIntOf, run_underlying hu, h0, h1, run_sizeOf_T hz, Instr.sureAddr]
      split at h
      · rename_i z r off hz
        refine ⟨_, h.2, fun w v j _ g hv hj => ?_⟩
        obtain ⟨h0, h1⟩ := h.1 g
        simp only [has] at hj
        subst hj
        obtain ⟨b, rfl, ho⟩ := ptr_form hv
        exact ⟨_, key z hz w _ h0 h1, by rw [lit_add]; exact ho _⟩
      · rename_i z r off hz
        refine ⟨_, h.2, fun w v j _ g hv hj => ?_⟩
        obtain ⟨h0, h1⟩ := h.1 g
        simp only [has] at hj
        subst hj
        obtain ⟨b, rfl, ho⟩ := rptr_form hv
        exact ⟨_, key z hz w _ h0 h1, by rw [add_add]; exact ho _⟩
      · rename_i z A off hz
        refine ⟨_, h.2, fun w v j _ g hv hj => ?_⟩
        obtain ⟨h0, h1⟩ := h.1 g
        simp only [has] at hj
        subst hj
        simp only [has, den, Option.map_eq_some_iff] at hv
        obtain ⟨ad, rfl, rfl⟩ := hv
        exact ⟨_, key z hz w _ h0 h1, by rw [add_add]; rfl⟩
      · exact h.elim
    · exact h.elim
  · exact h.elim

/-! ## parts of values -/
def SV.parts : SV → Option (List SV)
  | .agg cs => some cs
  | .val (.agg vs) => some (vs.toList.map .val)
  | _ => none
theorem denL_vals {M : List Res} : ∀ (l : List Value), denL M (l.map .val) = some l
  | [] => rfl
  | v :: l => by simp [denL, den, denL_vals l]
theorem parts_has {M : List Res} {x : SV} {v : Value} {cs : List SV} (hp : x.parts = some cs) (h : has M x v) : ∃ vs : Array Value, v = .agg vs ∧ denL M cs = some vs.toList := by
  unfold SV.parts at hp
  split at hp
  · cases hp
    simp only [has, den, Option.map_eq_some_iff] at h
    obtain ⟨vs, h1, rfl⟩ := h
    exact ⟨vs.toArray, rfl, by simpa using h1⟩
  · cases hp
    simp only [has] at h
    subst h
    exact ⟨_, rfl, denL_vals _⟩
  · cases hp
theorem denL_length {M : List Res} : ∀ {cs : List SV} {vs : List Value}, denL M cs = some vs → cs.length = vs.length
  | [], vs, h => by simp [denL] at h; subst h; rfl
  | c :: cs, vs, h => by
    simp only [denL, Option.bind_eq_some_iff, Option.map_eq_some_iff] at h
    obtain ⟨v, _, us, hus, rfl⟩ := h
    simp [denL_length hus]
theorem denL_get {M : List Res} : ∀ {cs : List SV} {vs : List Value}, denL M cs = some vs → ∀ (j : Nat) (c : SV), cs[j]? = some c → ∃ v, vs[j]? = some v ∧ den M c = some v
  | [], _, _, _, _, hc => by simp at hc
  | c :: cs, vs, h, j, d, hc => by
    simp only [denL, Option.bind_eq_some_iff, Option.map_eq_some_iff] at h
    obtain ⟨v, hv, us, hus, rfl⟩ := h
    cases j with
    | zero => simp at hc; subst hc; exact ⟨v, rfl, hv⟩
    | succ j => obtain ⟨u, h1, h2⟩ := denL_get hus j d (by simpa using hc); exact ⟨u, by simpa using h1, h2⟩
theorem denL_sub {M : List Res} {cs : List SV} {vs : List Value} (h : denL M cs = some vs) (off n : Nat) : denL M ((cs.drop off).take n) = some ((vs.drop off).take n) := by
  have hl := denL_length h
  refine denL_of (by simp [hl]) fun j c v hc hv => ?_
  rw [List.getElem?_take] at hc hv
  split at hc
  · rename_i hj
    rw [if_pos hj] at hv
    rw [List.getElem?_drop] at hc hv
    obtain ⟨u, h1, h2⟩ := denL_get h _ c hc
    rw [h1] at hv; cases hv; exact h2
  · cases hc

/-- a part of a value of several cells -/
def pvPartA (cs : List SV) (k : SV → Prop) (n : Option Nat) : Prop :=
  match n with
  | some n => k (.agg (cs.take n))
  | none => False
def pvPartB (P : Program) (t : TypeId) (cs : List SV) (off : Nat) (k : SV → Prop) (b : Option Bool) : Prop :=
  match b with
  | some true => pvPartA (cs.drop off) k (sizeT P t)
  | some false => kOpt k cs[off]?
  | none => False
def pvPart (P : Program) (t : TypeId) (cs : List SV) (off : Nat) (k : SV → Prop) : Prop := pvPartB P t cs off k (aggT P t)
theorem pvPart_sound {P : Program} {M : List Res} {t : TypeId} {cs : List SV} {off : Nat} {k : SV → Prop} (h : pvPart P t cs off k) :
    ∃ r, k r ∧ ∀ (w : World) (vs : Array Value), denL M cs = some vs.toList → ∃ u, (part t vs off).run P w = .ok u w ∧ has M r u := by
  unfold pvPart pvPartB pvPartA kOpt at h
  split at h
  · rename_i ha
    split at h
    · rename_i n hn
      refine ⟨_, h, fun w vs hd => ⟨_, by simp only [part, Sem.run_bind, run_isAgg_T ha, Result.andThen_ok, if_true, run_sizeOf_T hn, Sem.run_pure]; rfl, ?_⟩⟩
      have := denL_sub hd off n
      simp only [has, den, this, Option.map_some, Option.some.injEq, Value.agg.injEq]
      apply Array.ext'
      simp [List.take_drop]
    · exact h.elim
  · rename_i ha
    split at h
    · rename_i c hc
      refine ⟨_, h, fun w vs hd => ?_⟩
      obtain ⟨u, h1, h2⟩ := denL_get hd off c hc
      rw [Array.getElem?_toList] at h1
      exact ⟨u, by simp [part, run_isAgg_T ha, h1], has_of h2⟩
    · exact h.elim
  · exact h.elim

def pvFieldC (P : Program) (fd : Field) (k : SV → Prop) (cs : Option (List SV)) : Prop :=
  match cs with
  | some cs => pvPart P fd.type cs fd.offset k
  | none => False
def pvFieldV (P : Program) (x : SV) (k : SV → Prop) (f : Option Field) : Prop :=
  match f with
  | some fd => pvFieldC P fd k x.parts
  | none => False
def pvField (P : Program) (s : TypeId) (x : SV) (f : Nat) (k : SV → Prop) : Prop := pvFieldV P x k (fieldOf (P.underlying s) f)
theorem pvField_sound {P : Program} {M : List Res} {s : TypeId} {x : SV} {f : Nat} {k : SV → Prop} (h : pvField P s x f k) :
    ∃ r, k r ∧ ∀ (w : World) (v : Value), has M x v → ∃ u, (Instr.field s v f).run P w = .ok u w ∧ has M r u := by
  unfold pvField pvFieldV pvFieldC at h
  split at h
  · rename_i fd hff
    obtain ⟨fs, hu, hf⟩ := fieldOf_some hff
    split at h
    · rename_i cs hp
      obtain ⟨r, hk, hr⟩ := pvPart_sound (M := M) h
      refine ⟨r, hk, fun w v hv => ?_⟩
      obtain ⟨vs, rfl, hd⟩ := parts_has hp hv
      obtain ⟨u, h1, h2⟩ := hr w vs hd
      exact ⟨u, by simp [Instr.field, run_underlying hu, hf, asAgg, h1], h2⟩
    · exact h.elim
  · exact h.elim

def pvIndexS (G : Prop) (n : Int) (x : SV) (k : SV → Prop) : Prop :=
  match x with
  | .val (.string s) => ∃ c : UInt8, (G → 0 ≤ n ∧ s.data.toList[n.toNat]? = some c) ∧ k (.val (.int .u8 c.toNat))
  | _ => False
def pvIndexC (P : Program) (n : Int) (len : Nat) (e : TypeId) (k : SV → Prop) (z : Option Nat) (cs : Option (List SV)) : Prop :=
  match z, cs with
  | some z, some cs => 0 ≤ n ∧ n < len ∧ pvPart P e cs (n.toNat * z) k
  | _, _ => False
def pvIndexT (P : Program) (G : Prop) (n : Int) (x : SV) (k : SV → Prop) (d : Option TypeDesc) : Prop :=
  match d with
  | some .string => pvIndexS G n x k
  | some (.array len e) => pvIndexC P n len e k (sizeT P e) x.parts
  | _ => False
def pvIndex (P : Program) (G : Prop) (t : TypeId) (x i : SV) (k : SV → Prop) : Prop :=
  match i with
  | .val (.int _ n) => pvIndexT P G n x k (P.underlying t)
  | _ => False
theorem pvIndex_sound {P : Program} {M : List Res} {G : Prop} {t : TypeId} {x i : SV} {k : SV → Prop} (h : pvIndex P G t x i k) :
    ∃ r, k r ∧ ∀ (w : World) (v j : Value), G → has M x v → has M i j → ∃ u, (Instr.index t v j).run P w = .ok u w ∧ has M r u := by
  unfold pvIndex pvIndexT pvIndexS pvIndexC at h
  split at h
  · rename_i kd n
    split at h
    · rename_i hu
      split at h
      · rename_i s
        obtain ⟨c, h1, h2⟩ := h
        refine ⟨_, h2, fun w v j g hv hj => ?_⟩
        obtain ⟨h0, hc⟩ := h1 g
        simp only [has] at hv hj
        subst hv; subst hj
        refine ⟨.int .u8 c.toNat, ?_, rfl⟩
        have hc' : s[n.toNat]? = some c := by
          have hl : n.toNat < s.data.toList.length := (List.getElem?_eq_some_iff.1 hc).1
          have hl2 : n.toNat < s.size := by simpa using hl
          rw [getElem?_pos s n.toNat hl2]
          rw [List.getElem?_eq_getElem hl] at hc
          refine congrArg some ?_
          show s.data[n.toNat] = c
          simpa using hc
        simp [Instr.index, asIntOf, run_underlying hu, h0, hc']
      · exact h.elim
    · rename_i len e hu
      split at h
      · rename_i z cs hz hp
        obtain ⟨h0, h1, h⟩ := h
        obtain ⟨r, hk, hr⟩ := pvPart_sound (M := M) h
        refine ⟨r, hk, fun w v j g hv hj => ?_⟩
        obtain ⟨vs, rfl, hd⟩ := parts_has hp hv
        obtain ⟨u, h3, h4⟩ := hr w vs hd
        simp only [has] at hj
        subst hj
        exact ⟨u, by simp [Instr.index, asIntOf, run_underlying hu, h0, h1, run_sizeOf_T hz, h3], h4⟩
      · exact h.elim
    · exact h.elim
  · exact h.elim

/-! ## slices -/
def SV.int? : Option SV → Option (Option Int)
  | none => some none
  | some (.val (.int _ n)) => some (some n)
  | _ => none
def pvSliceS (G : Prop) (x : SV) (l h : Option Int) (k : SV → Prop) : Prop :=
  match x with
  | .val (.string s) => (G → 0 ≤ l.getD 0 ∧ l.getD 0 ≤ h.getD s.size ∧ h.getD s.size ≤ s.size) ∧ k (.val (.string (s.extract (l.getD 0).toNat (h.getD s.size).toNat)))
  | _ => False
def pvSliceL (G : Prop) (x : SV) (l h : Option Int) (k : SV → Prop) (z : Option Nat) : Prop :=
  match z, x with
  | some z, .val (.slice A len cap) => (G → 0 ≤ l.getD 0 ∧ l.getD 0 ≤ h.getD len ∧ h.getD len ≤ cap) ∧
      k (.val (.slice (if cap = (l.getD 0).toNat then A else A.map (·.add ((l.getD 0).toNat * z))) ((h.getD len).toNat - (l.getD 0).toNat) (cap - (l.getD 0).toNat)))
  | some z, .sl i off len cap => 0 ≤ l.getD 0 ∧ l.getD 0 ≤ h.getD len ∧ h.getD len ≤ cap ∧ (l.getD 0).toNat < cap ∧
      k (.sl i (off + (l.getD 0).toNat * z) ((h.getD len).toNat - (l.getD 0).toNat) (cap - (l.getD 0).toNat))
  | _, _ => False
def pvSliceA (x : SV) (len : Nat) (l h : Option Int) (k : SV → Prop) (z : Option Nat) : Prop :=
  match z, x with
  | some z, .ptr i off => 0 ≤ l.getD 0 ∧ l.getD 0 ≤ h.getD len ∧ h.getD len ≤ len ∧ (l.getD 0).toNat < len ∧ k (.sl i (off + (l.getD 0).toNat * z) ((h.getD len).toNat - (l.getD 0).toNat) (len - (l.getD 0).toNat))
  | _, _ => False
def pvSliceT (P : Program) (G : Prop) (x : SV) (l h : Option Int) (k : SV → Prop) (d : Option TypeDesc) : Prop :=
  match d with
  | some .string => pvSliceS G x l h k
  | some (.slice e) => pvSliceL G x l h k (sizeT P e)
  | some (.array len e) => pvSliceA x len l h k (sizeT P e)
  | _ => False
def pvSliceI (P : Program) (G : Prop) (x : SV) (k : SV → Prop) (d : Option TypeDesc) (l h : Option (Option Int)) : Prop :=
  match l, h with
  | some l, some h => pvSliceT P G x l h k d
  | _, _ => False
def pvSlice (P : Program) (G : Prop) (t : TypeId) (x : SV) (lo hi mx : Option SV) (k : SV → Prop) : Prop :=
  match mx with
  | none => pvSliceI P G x k (P.underlying t) (SV.int? lo) (SV.int? hi)
  | some _ => False

def hasO (M : List Res) : Option SV → Option Value → Prop
  | none, none => True
  | some s, some v => has M s v
  | _, _ => False
theorem hasO_int {M : List Res} {lo : Option SV} {l : Option Int} {lv : Option Value} (hl : SV.int? lo = some l) (hv : hasO M lo lv) : (l = none ∧ lv = none) ∨ ∃ kd n, l = some n ∧ lv = some (.int kd n) := by
  unfold SV.int? at hl
  split at hl
  · cases hl; cases lv <;> simp_all [hasO]
  · rename_i kd n
    cases hl
    cases lv with
    | none => exact hv.elim
    | some v => simp only [hasO, has] at hv; subst hv; exact .inr ⟨kd, n, rfl, rfl⟩
  · cases hl

theorem run_bounds {P : Program} {w : World} (isS : Bool) (len cap : Nat) {l h : Option Int} {lv hv : Option Value} (hl : (l = none ∧ lv = none) ∨ ∃ kd n, l = some n ∧ lv = some (.int kd n))
    (hh : (h = none ∧ hv = none) ∨ ∃ kd n, h = some n ∧ hv = some (.int kd n)) (h0 : 0 ≤ l.getD 0) (h1 : l.getD 0 ≤ h.getD len) (h2 : h.getD len ≤ cap) :
    (Instr.sliceBounds isS len cap lv hv none).run P w = .ok ((l.getD 0).toNat, (h.getD len).toNat, cap) w := by
  rcases hl with ⟨rfl, rfl⟩ | ⟨kd, n, rfl, rfl⟩ <;> rcases hh with ⟨rfl, rfl⟩ | ⟨kd', m, rfl, rfl⟩ <;> simp only [Option.getD_none, Option.getD_some] at h0 h1 h2 ⊢
  · simp [Instr.sliceBounds]
  · have e : m.toNat ≤ cap := by omega
    simp [Instr.sliceBounds, Instr.sliceBound, asIntOf, h1, h2]
  · simp [Instr.sliceBounds, Instr.sliceBound, asIntOf, h0, h1]
  · have e : n ≤ (m.toNat : Int) := by omega
    have e2 : 0 ≤ m := by omega
    have e3 : ¬ (max m 0 < n) := by omega
    simp [Instr.sliceBounds, Instr.sliceBound, asIntOf, h0, h2, e2]
    intro h; exact absurd h e3

theorem pvSlice_sound {P : Program} {M : List Res} {G : Prop} {t : TypeId} {x : SV} {lo hi mx : Option SV} {k : SV → Prop} (h : pvSlice P G t x lo hi mx k) :
    ∃ r, k r ∧ ∀ (w : World) (v : Value) (lv hv mv : Option Value), G → has M x v → hasO M lo lv → hasO M hi hv → hasO M mx mv → ∃ u, (Instr.sliceAt t v lv hv mv).run P w = .ok u w ∧ has M r u := by
  have none_of : ∀ {mv : Option Value}, hasO M none mv → mv = none := by intro mv; cases mv <;> simp [hasO]
  unfold pvSlice pvSliceI pvSliceT pvSliceS pvSliceL pvSliceA at h
  split at h
  · split at h
    · rename_i l hb hl hh
      split at h
      · rename_i hu
        split at h
        · rename_i s
          refine ⟨_, h.2, fun w v lv hv mv g hx h1 h2 h3 => ?_⟩
          obtain ⟨c0, c1, c2⟩ := h.1 g
          cases none_of h3
          simp only [has] at hx
          subst hx
          have hr := run_bounds (P := P) (w := w) false s.size s.size (hasO_int hl h1) (hasO_int hh h2) c0 c1 c2
          exact ⟨_, by simp [Instr.sliceAt, Instr.slice, run_underlying hu, hr], rfl⟩
        · exact h.elim
      · rename_i e hu
        split at h
        · rename_i z A len cap hz
          refine ⟨_, h.2, fun w v lv hv mv g hx h1 h2 h3 => ?_⟩
          obtain ⟨c0, c1, c2⟩ := h.1 g
          cases none_of h3
          simp only [has] at hx
          subst hx
          have hr := run_bounds (P := P) (w := w) true len cap (hasO_int hl h1) (hasO_int hh h2) c0 c1 c2
          exact ⟨_, by simp [Instr.sliceAt, Instr.slice, run_underlying hu, hr, run_sizeOf_T hz], rfl⟩
        · rename_i z i off len cap hz
          obtain ⟨c0, c1, c2, c3, h⟩ := h
          refine ⟨_, h, fun w v lv hv mv g hx h1 h2 h3 => ?_⟩
          cases none_of h3
          simp only [has, den] at hx
          cases hr : M[i]? with
          | none => rw [hr] at hx; cases hx
          | some q =>
            rw [hr] at hx
            obtain ⟨b, hx, hsl⟩ : ∃ b, v = .slice (some ⟨b, off, none⟩) len cap ∧ ∀ o n c, q.slAt o n c = some (.slice (some ⟨b, o, none⟩) n c) := by
              cases q <;> simp [Res.slAt] at hx
              · exact ⟨_, hx.symm, fun _ _ _ => rfl⟩
              · exact ⟨_, hx.symm, fun _ _ _ => rfl⟩
            subst hx
            have hr' := run_bounds (P := P) (w := w) true len cap (hasO_int hl h1) (hasO_int hh h2) c0 c1 c2
            refine ⟨.slice (some ⟨b, off + (l.getD 0).toNat * z, none⟩) ((hb.getD len).toNat - (l.getD 0).toNat) (cap - (l.getD 0).toNat), ?_, by simp [has, den, hr, hsl]⟩
            have hne : ¬ cap = (l.getD 0).toNat := by omega
            simp [Instr.sliceAt, Instr.slice, run_underlying hu, hr', run_sizeOf_T hz, hne, lit_add]
        · exact h.elim
      · rename_i len e hu
        split at h
        · rename_i z i off hz
          obtain ⟨c0, c1, c2, c3, h⟩ := h
          refine ⟨_, h, fun w v lv hv mv g hx h1 h2 h3 => ?_⟩
          cases none_of h3
          simp only [has, den] at hx
          cases hr : M[i]? with
          | none => rw [hr] at hx; cases hx
          | some q =>
            rw [hr] at hx
            obtain ⟨b, hx, hsl⟩ : ∃ b, v = .pointer (some ⟨b, off, none⟩) ∧ ∀ o n c, q.slAt o n c = some (.slice (some ⟨b, o, none⟩) n c) := by
              cases q <;> simp [Res.ptrAt] at hx
              · exact ⟨_, hx.symm, fun _ _ _ => rfl⟩
              · exact ⟨_, hx.symm, fun _ _ _ => rfl⟩
            subst hx
            have hr' := run_bounds (P := P) (w := w) false len len (hasO_int hl h1) (hasO_int hh h2) c0 c1 c2
            refine ⟨.slice (some ⟨b, off + (l.getD 0).toNat * z, none⟩) ((hb.getD len).toNat - (l.getD 0).toNat) (len - (l.getD 0).toNat), ?_, by simp [has, den, hr, hsl]⟩
            have hne : ¬ len = (l.getD 0).toNat := by omega
            simp [Instr.sliceAt, run_underlying hu, Instr.sureAddr, hr', run_sizeOf_T hz, hne, lit_add]
        · exact h.elim
      · exact h.elim
    · exact h.elim
  · exact h.elim

end Go.SX
