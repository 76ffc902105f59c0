/- A small layer for proofs about calls, part 4: operations that only look. -/
import Derived.Test.YtaecppimppeebaaDoorSx3
namespace Go.SX
open Go

def ev (F : Fr) : Operand → SV
  | .tmp t => F.get t
  | .const v => .val v
  | .global g => .val (.pointer (some ⟨g, 0, none⟩))
  | .func f => .val (.func (.func f) #[] #[])
def SV.core : SV → SV
  | .cnd _ x => x
  | x => x
def SV.grd : SV → Prop
  | .cnd b _ => b = true
  | _ => True
def SV.known : SV → Bool
  | .any | .cnd _ _ => false
  | _ => true

theorem has_core {M : List Res} {s : SV} {x : Value} (h : has M s x) (g : s.grd) : has M s.core x := by
  cases s with
  | cnd b y => exact h.1 g
  | _ => exact h
theorem has_known {M : List Res} {s : SV} {x : Value} (h : has M s x) (k : s.known = true) : den M s = some x := by
  cases s <;> simp_all [has, den, SV.known]
theorem ev_has {M : List Res} {N : Nat} {F : Fr} {a : Act} (h : FrameOk M N F a.tmps) (o : Operand) : has M (ev F o) (a.eval o) := by
  cases o with
  | tmp t => exact h.get t
  | const v => rfl
  | global g => rfl
  | func f => rfl

def sizeT (P : Program) (t : TypeId) : Option Nat := (P.info? t).map (·.size)
theorem run_sizeOf_T {P : Program} {t : TypeId} {n : Nat} (h : sizeT P t = some n) (w : World) : (sizeOf t).run P w = .ok n w := by
  simp only [sizeT, Option.map_eq_some_iff] at h
  obtain ⟨i, hi, rfl⟩ := h
  simp [sizeOf, typeInfo, hi]

/-! ## what a read may find -/
inductive CK where
  | int (k : IntKind) | bool | str | flt (k : FloatKind) | slc | ptr | map | other
def kCons (v : Value) (k : List Value → Prop) (l : List Value) : Prop := k (v :: l)
def exVals : List CK → (List Value → Prop) → Prop
  | [], k => k []
  | .int kd :: r, k => ∃ n : Int, exVals r (kCons (.int kd n) k)
  | .bool :: r, k => ∃ b : Bool, exVals r (kCons (.bool b) k)
  | .str :: r, k => ∃ s : ByteArray, exVals r (kCons (.string s) k)
  | .flt kd :: r, k => ∃ b : Nat, exVals r (kCons (.float kd b) k)
  | .slc :: r, k => ∃ (A : Option Addr) (n c : Nat), exVals r (kCons (.slice A n c) k)
  | .ptr :: r, k => ∃ p : Option Addr, exVals r (kCons (.pointer p) k)
  | .map :: r, k => ∃ p : Option Nat, exVals r (kCons (.map p) k)
  | .other :: r, k => ∃ v : Value, exVals r (kCons v k)
def exShape (ks : Option (List CK)) (k : List Value → Prop) : Prop :=
  match ks with
  | some l => exVals l k
  | none => False
theorem exVals_sound : ∀ {ks : List CK} {k : List Value → Prop}, exVals ks k → ∃ vs, k vs
  | [], _, h => ⟨_, h⟩
  | .int _ :: _, _, ⟨_, h⟩ => let ⟨_, h'⟩ := exVals_sound h; ⟨_, h'⟩
  | .bool :: _, _, ⟨_, h⟩ => let ⟨_, h'⟩ := exVals_sound h; ⟨_, h'⟩
  | .str :: _, _, ⟨_, h⟩ => let ⟨_, h'⟩ := exVals_sound h; ⟨_, h'⟩
  | .flt _ :: _, _, ⟨_, h⟩ => let ⟨_, h'⟩ := exVals_sound h; ⟨_, h'⟩
  | .slc :: _, _, ⟨_, _, _, h⟩ => let ⟨_, h'⟩ := exVals_sound h; ⟨_, h'⟩
  | .ptr :: _, _, ⟨_, h⟩ => let ⟨_, h'⟩ := exVals_sound h; ⟨_, h'⟩
  | .map :: _, _, ⟨_, h⟩ => let ⟨_, h'⟩ := exVals_sound h; ⟨_, h'⟩
  | .other :: _, _, ⟨_, h⟩ => let ⟨_, h'⟩ := exVals_sound h; ⟨_, h'⟩

def shape (P : Program) : Nat → TypeId → Option (List CK)
  | 0, _ => none
  | d + 1, t => match P.underlying t with
    | some (.int k) => some [.int k]
    | some .bool => some [.bool]
    | some .string => some [.str]
    | some (.float k) => some [.flt k]
    | some (.slice _) => some [.slc]
    | some (.pointer _) => some [.ptr]
    | some (.map _ _) => some [.map]
    | some (.struct fs) => (fs.toList.mapM fun f => shape P d f.type).map List.flatten
    | some (.array n e) => (shape P d e).map fun l => (List.replicate n l).flatten
    | some _ => some [.other]
    | none => none

/-- is the type a struct or an array? -/
def aggT (P : Program) (t : TypeId) : Option Bool :=
  match P.underlying t with
  | some (.struct _) | some (.array _ _) => some true
  | some _ => some false
  | none => none
theorem run_isAgg_T {P : Program} {t : TypeId} {b : Bool} (h : aggT P t = some b) (w : World) : (isAgg t).run P w = .ok b w := by
  unfold aggT at h
  cases hu : P.underlying t with
  | none => rw [hu] at h; cases h
  | some d =>
    rw [hu] at h
    simp only [isAgg, Sem.run_bind, run_underlying hu, Result.andThen_ok]
    cases d <;> simp_all

/-- the cells lie at a place that stays -/
def Rds (Z : Heap) (A : Option Addr) (off : Nat) (vs : List Value) : Prop := ∀ (j : Nat) (v : Value), vs[j]? = some v → rd Z A (off + j) = some v

theorem add_add (a : Addr) (i j : Nat) : (a.add i).add j = a.add (i + j) := by
  unfold Addr.add
  by_cases hi : i = 0 <;> by_cases hj : j = 0 <;> simp [hi, hj, Nat.add_assoc]
theorem add_zero (a : Addr) : a.add 0 = a := by simp [Addr.add]
theorem lit_add (b off j : Nat) : (⟨b, off, none⟩ : Addr).add j = ⟨b, off + j, none⟩ := by
  unfold Addr.add
  by_cases hj : j = 0 <;> simp [hj]

/-- a value of so many cells, read as a whole -/
def whole1 (vs : List Value) (k : SV → Prop) : Prop :=
  match vs with
  | [v] => k (.val v)
  | _ => False
def wholeB (P : Program) (t : TypeId) (vs : List Value) (k : SV → Prop) (b : Option Bool) : Prop :=
  match b with
  | some true => sizeT P t = some vs.length ∧ k (.val (.agg vs.toArray))
  | some false => whole1 vs k
  | none => False
def whole (P : Program) (t : TypeId) (vs : List Value) (k : SV → Prop) : Prop := wholeB P t vs k (aggT P t)

theorem whole_sound {P : Program} {t : TypeId} {vs : List Value} {k : SV → Prop} (h : whole P t vs k) :
    ∃ v, k (.val v) ∧ ∀ (w : World) (p : Addr), (∀ (j : Nat) (u : Value), vs[j]? = some u → w.cell? (p.add j) = some u) → (loadVar t p).run P w = .ok v w := by
  unfold whole wholeB at h
  split at h
  · rename_i ha
    refine ⟨_, h.2, fun w p hc => ?_⟩
    have hl := run_loadCells_list (P := P) w p vs hc
    simp only [loadVar, Sem.run_bind, run_isAgg_T ha, Result.andThen_ok, if_true, run_sizeOf_T h.1, hl]
    rfl
  · rename_i ha
    unfold whole1 at h
    split at h
    · rename_i v
      refine ⟨_, h, fun w p hc => ?_⟩
      have h0 := hc 0 v rfl
      rw [add_zero] at h0
      simp [loadVar, run_isAgg_T ha, h0]
    · exact h.elim
  · exact h.elim

def kXs (P : Program) (t : TypeId) (G : Prop) (xs : List Value) (off : Nat) (k : SV → Prop) (vs : List Value) : Prop :=
  (G → ∀ (j : Nat) (v : Value), vs[j]? = some v → xs[off + j]? = some v) ∧ whole P t vs k
def kRd (P : Program) (t : TypeId) (G : Prop) (Z : Heap) (A : Option Addr) (off : Nat) (k : SV → Prop) (vs : List Value) : Prop :=
  (G → Rds Z A off vs) ∧ whole P t vs k
def pvLoadA (cs : List SV) (k : SV → Prop) (n : Option Nat) : Prop :=
  match n with
  | some n => (cs.take n).length = n ∧ (cs.take n).all SV.known = true ∧ k (.agg (cs.take n))
  | none => False
def kOpt (k : SV → Prop) (c : Option SV) : Prop :=
  match c with
  | some c => k c
  | none => False
def pvLoadB (P : Program) (t : TypeId) (cs : List SV) (off : Nat) (k : SV → Prop) (b : Option Bool) : Prop :=
  match b with
  | some true => pvLoadA (cs.drop off) k (sizeT P t)
  | some false => kOpt k cs[off]?
  | none => False
def pvLoadR (P : Program) (G : Prop) (t : TypeId) (off : Nat) (k : SV → Prop) (r : Option Res) : Prop :=
  match r with
  | some (.blk _ cs _) => pvLoadB P t cs off k (aggT P t)
  | some (.arr _ xs _ _) => exShape (shape P 9 t) (kXs P t G xs off k)
  | _ => False
def pvLoadW (P : Program) (G : Prop) (t : TypeId) (off : Nat) (k : SV → Prop) (r : Option Res) : Prop :=
  match r with
  | some (.row _ _ _ _ _ xs) => exShape (shape P 9 t) (kXs P t G xs off k)
  | _ => False
def pvLoad (P : Program) (M : List Res) (Z : Heap) (G : Prop) (t : TypeId) (p : SV) (k : SV → Prop) : Prop :=
  match p with
  | .ptr i off => pvLoadR P G t off k M[i]?
  | .rptr i off => pvLoadW P G t off k M[i]?
  | .xptr A off => exShape (shape P 9 t) (kRd P t G Z A off k)
  | .val (.pointer (some q)) => exShape (shape P 9 t) (kRd P t G Z (some q) 0 k)
  | _ => False

theorem denL_of {M : List Res} : ∀ {cs : List SV} {vs : List Value}, cs.length = vs.length → (∀ (j : Nat) (c : SV) (v : Value), cs[j]? = some c → vs[j]? = some v → den M c = some v) → denL M cs = some vs
  | [], [], _, _ => rfl
  | [], _ :: _, h, _ => by simp at h
  | _ :: _, [], h, _ => by simp at h
  | c :: cs, v :: vs, h, hd => by
    have h0 := hd 0 c v rfl rfl
    have h1 := denL_of (M := M) (cs := cs) (vs := vs) (by simpa using h) (fun j c' v' hc hv => hd (j + 1) c' v' (by simpa using hc) (by simpa using hv))
    simp [denL, h0, h1]

theorem row_cell {w : World} {v : Value} {e : TypeId} {size n : Nat} {xs : List Value} {base : Nat} (h : w.ownsRow base e size v n xs) {j : Nat} {u : Value} (hj : xs[j]? = some u) :
    ∃ g cap, v = .slice (some ⟨g, 0, none⟩) n cap ∧ w.cell? ⟨g, j, none⟩ = some u ∧ w.frozen? ⟨g, j, none⟩ = false := by
  obtain ⟨h0, ⟨rfl, rfl⟩ | ⟨g, cap, cur, rfl, _, hh, _, _, hs, ht⟩⟩ := h
  · have : xs = [] := List.eq_nil_of_length_eq_zero (by omega)
    subst this; simp at hj
  · refine ⟨g, cap, rfl, ?_, by simp [World.frozen?, hh]⟩
    have hl : j < xs.length := (List.getElem?_eq_some_iff.1 hj).1
    rw [← ht] at hj
    rw [List.getElem?_take] at hj
    split at hj
    · simp [World.cell?, hh]
      simpa using hj
    · cases hj

theorem pvLoad_sound {P : Program} {M : List Res} {Z : Heap} {G : Prop} {t : TypeId} {p : SV} {k : SV → Prop} (h : pvLoad P M Z G t p k) :
    ∃ r, k r ∧ ∀ (E : Env) (w : World) (x : Value), Mem E M Z w → G → has M p x → ∃ v, (Instr.loadAt t x).run P w = .ok v w ∧ has M r v := by
  unfold pvLoad pvLoadR pvLoadW pvLoadB pvLoadA kOpt exShape at h
  split at h
  · rename_i i off
    split at h
    · rename_i b cs ty hi
      split at h
      · rename_i ha
        split at h
        · rename_i n hn
          obtain ⟨hl, hk, h⟩ := h
          refine ⟨_, h, fun E w x hm _ hp => ?_⟩
          have hx : x = .pointer (some ⟨b, off, none⟩) := by
            simp [has, den, hi, Res.ptrAt] at hp; exact hp.symm
          subst hx
          obtain ⟨vs, h1, h2, h3⟩ := hm.own i _ hi
          have hlen : off + n ≤ cs.length ∨ n = 0 := by
            simp only [List.length_take, List.length_drop] at hl
            omega
          have hc : ∀ (j : Nat) (u : Value), ((vs.toList.drop off).take n)[j]? = some u → w.cell? ((⟨b, off, none⟩ : Addr).add j) = some u := by
            intro j u hj
            rw [List.getElem?_take] at hj
            split at hj
            · rw [List.getElem?_drop] at hj
              rw [lit_add]
              simp [World.cell?, h1]
              simpa using hj
            · cases hj
          have hr := run_loadCells_list (P := P) w ⟨b, off, none⟩ ((vs.toList.drop off).take n) hc
          have hn' : ((vs.toList.drop off).take n).length = n := by
            simp only [List.length_take, List.length_drop, Array.length_toList]
            simp only [List.length_take, List.length_drop] at hl
            omega
          rw [hn'] at hr
          refine ⟨.agg ((vs.toList.drop off).take n).toArray, ?_, ?_⟩
          · simp only [Instr.loadAt, Instr.sureAddr, Sem.run_bind, Sem.run_pure, Result.andThen_ok, loadVar, run_isAgg_T ha, if_true, run_sizeOf_T hn, hr]
          · have : denL M ((cs.drop off).take n) = some ((vs.toList.drop off).take n) := by
              refine denL_of (by rw [hl, hn']) fun j c v hc hv => ?_
              have hkn : c.known = true := by
                rw [List.all_eq_true] at hk
                exact hk c (List.mem_of_getElem? hc)
              rw [List.getElem?_take] at hc hv
              split at hc
              · rename_i hj
                rw [if_pos hj] at hv
                rw [List.getElem?_drop] at hc hv
                have := h3 _ c hc
                have hv' : vs.getD (off + j) undef = v := by
                  simp only [Array.getElem?_toList] at hv
                  simp [Array.getD_eq_getD_getElem?, hv]
                rw [hv'] at this
                exact has_known this hkn
              · cases hc
            simp [has, den, this]
        · exact h.elim
      · rename_i ha
        split at h
        · rename_i c hc
          refine ⟨_, h, fun E w x hm _ hp => ?_⟩
          have hx : x = .pointer (some ⟨b, off, none⟩) := by
            simp [has, den, hi, Res.ptrAt] at hp; exact hp.symm
          subst hx
          obtain ⟨v, hv, hh⟩ := hm.cell hi hc
          exact ⟨v, by simp [Instr.loadAt, Instr.sureAddr, loadVar, run_isAgg_T ha, hv], hh⟩
        · exact h.elim
      · exact h.elim
    · rename_i b xs ty fr hi
      split at h
      · obtain ⟨vs, hr, h⟩ := exVals_sound h
        obtain ⟨y, hk, hl⟩ := whole_sound h
        refine ⟨_, hk, fun E w x hm g hp => ⟨y, ?_, rfl⟩⟩
        have hx : x = .pointer (some ⟨b, off, none⟩) := by
          simp [has, den, hi, Res.ptrAt] at hp; exact hp.symm
        subst hx
        have hown : w.heap[b]? = some (.cells xs.toArray ty fr) := hm.own i _ hi
        simp only [Instr.loadAt, Instr.sureAddr, Sem.run_bind, Sem.run_pure, Result.andThen_ok]
        refine hl w _ fun j u hj => ?_
        rw [lit_add]
        have := hr g j u hj
        simp [World.cell?, hown, this]
      · exact h.elim
    · exact h.elim
  · rename_i i off
    split at h
    · rename_i A cap e size n xs hi
      split at h
      · obtain ⟨vs, hr, h⟩ := exVals_sound h
        obtain ⟨y, hk, hl⟩ := whole_sound h
        refine ⟨_, hk, fun E w x hm g hp => ?_⟩
        have hown : w.ownsRow 0 e size (.slice A n cap) n xs := hm.own i _ hi
        simp only [has, den, hi, Option.bind_some, Res.rptrAt, Option.map_eq_some_iff] at hp
        obtain ⟨ad, rfl, rfl⟩ := hp
        refine ⟨y, ?_, rfl⟩
        simp only [Instr.loadAt, Instr.sureAddr, Sem.run_bind, Sem.run_pure, Result.andThen_ok]
        refine hl w _ fun j u hj => ?_
        obtain ⟨g', cap', he, hc, _⟩ := row_cell hown (hr g j u hj)
        cases he
        rw [add_add, lit_add]
        simpa using hc
      · exact h.elim
    · exact h.elim
  · rename_i A off
    split at h
    · obtain ⟨vs, hr, h⟩ := exVals_sound h
      obtain ⟨y, hk, hl⟩ := whole_sound h
      refine ⟨_, hk, fun E w x hm g hp => ⟨y, ?_, rfl⟩⟩
      simp only [has, den, Option.map_eq_some_iff] at hp
      obtain ⟨ad, rfl, rfl⟩ := hp
      simp only [Instr.loadAt, Instr.sureAddr, Sem.run_bind, Sem.run_pure, Result.andThen_ok]
      refine hl w _ fun j u hj => ?_
      rw [add_add]
      exact hm.frozen.cell (hr g j u hj)
    · exact h.elim
  · rename_i q
    split at h
    · obtain ⟨vs, hr, h⟩ := exVals_sound h
      obtain ⟨y, hk, hl⟩ := whole_sound h
      refine ⟨_, hk, fun E w x hm g hp => ⟨y, ?_, rfl⟩⟩
      simp only [has] at hp
      subst hp
      simp only [Instr.loadAt, Instr.sureAddr, Sem.run_bind, Sem.run_pure, Result.andThen_ok]
      refine hl w _ fun j u hj => ?_
      have := hr g j u hj
      rw [Nat.zero_add] at this
      exact hm.frozen.cell this
    · exact h.elim
  · exact h.elim

end Go.SX
