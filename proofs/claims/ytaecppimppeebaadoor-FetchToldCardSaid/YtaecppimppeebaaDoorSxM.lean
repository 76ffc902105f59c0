/- A small layer for proofs about calls, part 6b: maps. -/
import Derived.Test.YtaecppimppeebaaDoorSx6
import Derived.MapKept
namespace Go.SX
open Go

/-! ## the entries of a map -/
section
open Classical
/-- the first entry with a key: where it lies, what it holds -/
noncomputable def findE (x : Value) : List MapEntry → Nat → Option (Nat × Value)
  | [], _ => none
  | e :: es, i => if x = e.key then some (i, e.val) else findE x es (i + 1)
end
noncomputable def lookE (es : Array MapEntry) (x : Value) : Option Value := (findE x es.toList 0).map (·.2)
noncomputable def putE (es : Array MapEntry) (c : Nat) (k v : Value) : Array MapEntry :=
  match findE k es.toList 0 with
  | some (i, _) => es.modify i fun e => { e with key := k, val := v }
  | none => es.push ⟨k, v, c⟩
noncomputable def putC (es : Array MapEntry) (c : Nat) (k : Value) : Nat :=
  match findE k es.toList 0 with
  | some _ => c
  | none => c + 1
/-- the keys with what they hold, in the order of their coming -/
def entL (es : Array MapEntry) : List (Value × Value) := es.toList.map fun e => (e.key, e.val)
section
open Classical
noncomputable def lookL (x : Value) : List (Value × Value) → Option Value
  | [] => none
  | e :: es => if x = e.1 then some e.2 else lookL x es
noncomputable def putL (k v : Value) : List (Value × Value) → List (Value × Value)
  | [] => [(k, v)]
  | e :: es => if k = e.1 then (k, v) :: es else e :: putL k v es
end
theorem findE_off (x : Value) : ∀ (es : List MapEntry) (i : Nat), findE x es i = (findE x es 0).map fun p => (p.1 + i, p.2)
  | [], i => rfl
  | e :: es, i => by
    simp only [findE]
    split
    · simp
    · rw [findE_off x es (i + 1), findE_off x es (0 + 1)]
      cases findE x es 0 <;> simp [Nat.add_assoc, Nat.add_comm 1 i]
theorem lookE_eq (es : Array MapEntry) (x : Value) : lookE es x = lookL x (entL es) := by
  unfold lookE entL
  induction es.toList with
  | nil => rfl
  | cons e l ih =>
    simp only [findE, List.map_cons, lookL]
    split
    · rfl
    · rw [findE_off, Option.map_map, ← ih]; rfl
theorem putE_eq (es : Array MapEntry) (c : Nat) (k v : Value) : entL (putE es c k v) = putL k v (entL es) := by
  obtain ⟨l⟩ := es
  unfold putE entL
  simp only
  have key : ∀ l : List MapEntry, (match findE k l 0 with
      | some (i, _) => (l.modify i fun e => { e with key := k, val := v }).map fun e => (e.key, e.val)
      | none => (l ++ [({ key := k, val := v, born := c } : MapEntry)]).map fun e : MapEntry => (e.key, e.val)) = putL k v (l.map fun e => (e.key, e.val)) := by
    intro l
    induction l with
    | nil => rfl
    | cons e l ih =>
      simp only [findE, List.map_cons, putL]
      split
      · rename_i i v' h
        split at h
        · rename_i hk
          cases h
          simp [hk]
        · rename_i hk
          rw [if_neg hk, ← ih]
          rw [findE_off] at h
          cases hf : findE k l 0 with
          | none => rw [hf] at h; cases h
          | some p =>
            rw [hf] at h
            simp only [Option.map_some, Option.some.injEq, Prod.mk.injEq] at h
            obtain ⟨rfl, _⟩ := h
            simp
      · rename_i h
        split at h
        · cases h
        · rename_i hk
          rw [if_neg hk, ← ih]
          rw [findE_off] at h
          cases hf : findE k l 0 with
          | none => simp
          | some p => rw [hf] at h; cases h
  rw [← key l]
  cases hf : findE k l 0 with
  | none => simp
  | some p => simp

/-- a type of keys: what is asked of a key, and that the model's own search finds the first one -/
structure KeyT (P : Program) (kt : TypeId) (ok : Value → Prop) : Prop where
  check : ∀ (w : World) (em : Bool) (v : Value), ok v → (Instr.checkKey em 10000 kt v).run P w = .ok () w
  find : ∀ (w : World) (x : Value), ok x → ∀ es : List MapEntry, (∀ e ∈ es, ok e.key) → (Instr.findKey kt x es).run P w = .ok (findE x es 0) w
  stays : ∀ (w : World) (v : Value), ok v → (Instr.keyThatStays v v).run P w = .ok v w
/-- keys that fit their type -/
def KeysOk (P : Program) (kt : TypeId) (ks : List Value) : Prop := ∃ ok, KeyT P kt ok ∧ ∀ v ∈ ks, ok v

theorem beq_bytes (a b : ByteArray) : (a == b) = decide (a = b) := by
  cases a with | mk a => cases b with | mk b =>
  have e : ((⟨a⟩ : ByteArray) == ⟨b⟩) = (a == b) := rfl
  rw [e]
  by_cases h : a = b
  · subst h; simp
  · simp [h]
theorem keyT_int {P : Program} {kt : TypeId} {kd : IntKind} (ht : P.underlying kt = some (.int kd)) : KeyT P kt (fun v => ∃ n, v = .int kd n) where
  check := by
    rintro w em v ⟨n, rfl⟩
    have : ∀ d, (Instr.checkKey em (d + 1) kt (.int kd n)).run P w = .ok () w := fun d => by simp [Instr.checkKey, run_underlying ht]
    exact this 9999
  find := by
    rintro w x ⟨n, rfl⟩ es hes
    have : ∀ (es : List MapEntry) (i : Nat), (∀ e ∈ es, ∃ n, e.key = .int kd n) → Instr.findNow (.int kd) (.int kd n) es i = some (findE (.int kd n) es i) := by
      intro es
      induction es with
      | nil => intro i _; rfl
      | cons e es ih =>
        intro i h
        obtain ⟨m, hm⟩ := h e (by simp)
        obtain ⟨key, val, born⟩ := e
        simp only at hm
        subst hm
        simp only [Instr.findNow, findE, Instr.sameNow, if_true, Value.int.injEq, true_and]
        by_cases hnm : n = m
        · subst hnm; simp
        · have : (n == m) = false := by simpa using hnm
          rw [this, if_neg hnm]
          exact ih (i + 1) fun e' h' => h e' (by simp [h'])
    simp [Instr.findKey, run_underlying ht, this es 0 hes]
  stays := by
    rintro w v ⟨n, rfl⟩
    have : ∀ d, Instr.sameBits (d + 1) (.int kd n) (.int kd n) = true := fun d => by simp [Instr.sameBits]
    simp [Instr.keyThatStays, this 9999]
theorem keyT_string {P : Program} {kt : TypeId} (ht : P.underlying kt = some .string) : KeyT P kt (fun v => ∃ s, v = .string s) where
  check := by
    rintro w em v ⟨n, rfl⟩
    have : ∀ d, (Instr.checkKey em (d + 1) kt (.string n)).run P w = .ok () w := fun d => by simp [Instr.checkKey, run_underlying ht]
    exact this 9999
  find := by
    rintro w x ⟨n, rfl⟩ es hes
    have : ∀ (es : List MapEntry) (i : Nat), (∀ e ∈ es, ∃ n, e.key = .string n) → Instr.findNow .string (.string n) es i = some (findE (.string n) es i) := by
      intro es
      induction es with
      | nil => intro i _; rfl
      | cons e es ih =>
        intro i h
        obtain ⟨m, hm⟩ := h e (by simp)
        obtain ⟨key, val, born⟩ := e
        simp only at hm
        subst hm
        simp only [Instr.findNow, findE, Instr.sameNow, Value.string.injEq, beq_bytes]
        by_cases hnm : n = m
        · subst hnm; simp
        · rw [decide_eq_false hnm, if_neg hnm]
          exact ih (i + 1) fun e' h' => h e' (by simp [h'])
    simp [Instr.findKey, run_underlying ht, this es 0 hes]
  stays := by
    rintro w v ⟨n, rfl⟩
    have : ∀ d, Instr.sameBits (d + 1) (.string n) (.string n) = true := fun d => by simp [Instr.sameBits, beq_bytes]
    simp [Instr.keyThatStays, this 9999]
theorem keysOk_int {P : Program} {kt : TypeId} {kd : IntKind} (ht : P.underlying kt = some (.int kd)) {ks : List Value} (h : ∀ v ∈ ks, ∃ n, v = .int kd n) : KeysOk P kt ks := ⟨_, keyT_int ht, h⟩
theorem keysOk_string {P : Program} {kt : TypeId} (ht : P.underlying kt = some .string) {ks : List Value} (h : ∀ v ∈ ks, ∃ n, v = .string n) : KeysOk P kt ks := ⟨_, keyT_string ht, h⟩

/-! ## what the operations do -/
def zeroVal (P : Program) (t : TypeId) : Option Value := (P.info? t).bind (·.zero)
theorem run_zeroVal {P : Program} {t : TypeId} {v : Value} (h : zeroVal P t = some v) (w : World) : (zeroValue t).run P w = .ok v w := by
  simp only [zeroVal, Option.bind_eq_some_iff] at h
  obtain ⟨i, hi, hz⟩ := h
  simp [zeroValue, typeInfo, hi, hz]
theorem run_lookupE {P : Program} {t kt e : TypeId} (ht : P.underlying t = some (.map kt e)) {z : Value} (hz : zeroVal P e = some z) {es : Array MapEntry} {w : World} {m : Value}
    (hm : (m = .map none ∧ es = #[]) ∨ ∃ b c, m = .map (some b) ∧ w.heap[b]? = some (.map es c)) {key : Value} (hk : KeysOk P kt (key :: es.toList.map (·.key))) (ok : Bool) :
    (Instr.lookup t m key ok).run P w = .ok (if ok then .tuple #[(lookE es key).getD z, .bool (lookE es key).isSome] else (lookE es key).getD z) w := by
  obtain ⟨okk, K, hall⟩ := hk
  have hkey := hall key (by simp)
  have hes : ∀ x ∈ es.toList, okk x.key := fun x hx => hall _ (by simp only [List.mem_cons, List.mem_map]; exact .inr ⟨x, hx, rfl⟩)
  have hc := K.check w es.isEmpty key hkey
  have hf := K.find w key hkey es.toList hes
  have hzr := run_zeroVal hz w
  unfold lookE
  rcases hm with ⟨rfl, rfl⟩ | ⟨b, c, rfl, hb⟩
  · have hf' : (Instr.findKey kt key []).run P w = .ok none w := by simpa [findE] using hf
    have hc' : (Instr.checkKey true 10000 kt key).run P w = .ok () w := by simpa using hc
    cases ok <;> simp [Instr.lookup, run_underlying ht, hc', hf', findE, hzr, Result.andThen]
  · have hg := MapKept.run_getObj_map (P := P) hb
    cases hfe : findE key es.toList 0 with
    | none =>
      rw [hfe] at hf
      cases ok <;> simp [Instr.lookup, run_underlying ht, hg, hc, hf, hzr, Result.andThen]
    | some p =>
      obtain ⟨i, v⟩ := p
      rw [hfe] at hf
      cases ok <;> simp [Instr.lookup, run_underlying ht, hg, hc, hf, Result.andThen]

theorem findE_at {x : Value} : ∀ {es : List MapEntry} {i j : Nat} {v : Value}, findE x es i = some (j, v) → ∃ k e, j = i + k ∧ es[k]? = some e ∧ e.key = x ∧ e.val = v
  | [], i, j, v, h => by cases h
  | e :: es, i, j, v, h => by
    simp only [findE] at h
    split at h
    · rename_i hx; cases h; exact ⟨0, e, rfl, rfl, hx.symm, rfl⟩
    · obtain ⟨k, e', h1, h2, h3, h4⟩ := findE_at h
      exact ⟨k + 1, e', by omega, by simpa using h2, h3, h4⟩

def setMap (w : World) (b : Nat) (es : Array MapEntry) (c : Nat) : World := { w with heap := w.heap.set! b (.map es c) }
theorem run_setObj {P : Program} {w : World} {b : Nat} {es es' : Array MapEntry} {c c' : Nat} (hb : w.heap[b]? = some (.map es c)) : (setObj b (.map es' c')).run P w = .ok () (setMap w b es' c') := by
  have := MapKept.run_setObj_map (P := P) (.map es' c') hb
  rw [this]
  rfl
theorem run_mapUpdateE {P : Program} {t kt e : TypeId} (ht : P.underlying t = some (.map kt e)) {es : Array MapEntry} {w : World} {b c : Nat} (hb : w.heap[b]? = some (.map es c)) {key v : Value}
    (hk : KeysOk P kt (key :: es.toList.map (·.key))) : (Instr.mapUpdate t (.map (some b)) key v).run P w = .ok () (setMap w b (putE es c key v) (putC es c key)) := by
  obtain ⟨okk, K, hall⟩ := hk
  have hkey := hall key (by simp)
  have hes : ∀ x ∈ es.toList, okk x.key := fun x hx => hall _ (by simp only [List.mem_cons, List.mem_map]; exact .inr ⟨x, hx, rfl⟩)
  have hc := K.check w false key hkey
  have hf := K.find w key hkey es.toList hes
  have hg := MapKept.run_getObj_map (P := P) hb
  unfold putE putC
  cases hfe : findE key es.toList 0 with
  | none =>
    rw [hfe] at hf
    simp [Instr.mapUpdate, run_underlying ht, hg, hc, hf, run_setObj hb, Result.andThen]
  | some p =>
    obtain ⟨i, v'⟩ := p
    rw [hfe] at hf
    obtain ⟨k, e', h1, h2, h3, h4⟩ := findE_at hfe
    rw [Nat.zero_add] at h1
    subst h1
    have h2' : es[i]? = some e' := by simpa using h2
    have hs := K.stays w key hkey
    simp [Instr.mapUpdate, run_underlying ht, hg, hc, hf, h2', h3, hs, run_setObj hb, Result.andThen]
theorem setMap_heap {w : World} {b : Nat} {es : Array MapEntry} {c : Nat} {o : Obj} (hb : w.heap[b]? = some o) : (setMap w b es c).heap[b]? = some (.map es c) := by
  have := (Array.getElem?_eq_some_iff.1 hb).1
  simp [setMap, this]
theorem setMap_other {w : World} {b k : Nat} {es : Array MapEntry} {c : Nat} (hk : k ≠ b) : (setMap w b es c).heap[k]? = w.heap[k]? := by
  simp [setMap, Ne.symm hk]
theorem setMap_kept (w : World) (b : Nat) (es : Array MapEntry) (c : Nat) : Kept w (· = b) (setMap w b es c) :=
  ⟨rfl, rfl, rfl, by simp [setMap], fun _ _ hk => setMap_other hk⟩

theorem has_den {M : List Res} {s : SV} {x v : Value} (h : has M s x) (hd : den M s = some v) : x = v := by
  cases s with
  | any => simp [den] at hd
  | cnd => simp [den] at hd
  | val u => simp only [has] at h; simp only [den, Option.some.injEq] at hd; rw [← h, hd]
  | _ => simp only [has] at h; rw [h] at hd; cases hd; rfl

/-! ## a look-up -/
/-- the cells of a value of type e -/
def LkIs (P : Program) (e : TypeId) (v : Value) (vs : List Value) : Prop := v.cells.toList = vs ∧ ((∃ u, v = .agg u) ↔ aggT P e = some true)
theorem lkIs_one {P : Program} {e : TypeId} {v : Value} (h : v.oneCell' = true) (ha : aggT P e = some false) : LkIs P e v [v] := by
  refine ⟨?_, ?_⟩
  · cases v <;> first | rfl | cases h
  · constructor
    · rintro ⟨u, rfl⟩; cases h
    · intro hh; rw [ha] at hh; cases hh
theorem lkIs_agg {P : Program} {e : TypeId} {u : Array Value} (ha : aggT P e = some true) : LkIs P e (.agg u) u.toList := ⟨rfl, fun _ => ha, fun _ => ⟨u, rfl⟩⟩
def kLk (P : Program) (e : TypeId) (G : Prop) (r : Option Value) (z : Value) (k : SV → Prop) (vs : List Value) : Prop :=
  (G → LkIs P e (r.getD z) vs) ∧ whole P e vs k
def kOk2 (b : Bool) (k : SV → Prop) (x : SV) : Prop :=
  match x with
  | .val v => k (.val (.tuple #[v, .bool b]))
  | _ => False
def kOk (ok b : Bool) (k : SV → Prop) : SV → Prop :=
  match ok with
  | true => kOk2 b k
  | false => k
/-- the entries of a known map -/
def mapEs (M : List Res) (Z : Heap) (G : Prop) (x : SV) (k : Array MapEntry → Prop) : Prop :=
  match x with
  | .mp i => mapEsR k M[i]?
  | .val (.map none) => k #[]
  | .val (.map (some b)) => ∃ es c, (G → Z b = some (.map es c)) ∧ k es
  | _ => False
where mapEsR (k : Array MapEntry → Prop) (r : Option Res) : Prop :=
  match r with
  | some (.obj _ (.map es _)) => k es
  | _ => False
def kLook (P : Program) (kt e : TypeId) (G : Prop) (z key : Value) (ok : Bool) (k : SV → Prop) (es : Array MapEntry) : Prop :=
  (G → KeysOk P kt (key :: es.toList.map (·.key))) ∧ exShape (shape P 9 e) (kLk P e G (lookE es key) z (kOk ok (lookE es key).isSome k))
def pvLookZ (P : Program) (M : List Res) (Z : Heap) (G : Prop) (kt e : TypeId) (x key : SV) (ok : Bool) (k : SV → Prop) (z : Option Value) : Prop :=
  match key, z with
  | .val key, some z => mapEs M Z G x (kLook P kt e G z key ok k)
  | _, _ => False
def pvLookT (P : Program) (M : List Res) (Z : Heap) (G : Prop) (x key : SV) (ok : Bool) (k : SV → Prop) (d : Option TypeDesc) : Prop :=
  match d with
  | some (.map kt e) => pvLookZ P M Z G kt e x key ok k (zeroVal P e)
  | _ => False
def pvLookup (P : Program) (M : List Res) (Z : Heap) (G : Prop) (t : TypeId) (x key : SV) (ok : Bool) (k : SV → Prop) : Prop := pvLookT P M Z G x key ok k (P.underlying t)

theorem mapEs_sound {M : List Res} {Z : Heap} {G : Prop} {x : SV} {k : Array MapEntry → Prop} (h : mapEs M Z G x k) :
    ∃ es, k es ∧ ∀ (E : Env) (w : World) (v : Value), Mem E M Z w → G → has M x v → (v = .map none ∧ es = #[]) ∨ ∃ b c, v = .map (some b) ∧ w.heap[b]? = some (.map es c) := by
  unfold mapEs mapEs.mapEsR at h
  split at h
  · rename_i i
    split at h
    · rename_i b es c hi
      refine ⟨es, h, fun E w v hm _ hv => .inr ⟨b, c, ?_, hm.own i _ hi⟩⟩
      simp [has, den, hi, Res.mapVal] at hv
      exact hv.symm
    · exact h.elim
  · exact ⟨_, h, fun E w v _ _ hv => .inl ⟨hv.symm, rfl⟩⟩
  · rename_i b
    obtain ⟨es, c, h1, h2⟩ := h
    exact ⟨es, h2, fun E w v hm g hv => .inr ⟨b, c, hv.symm, hm.frozen b _ (h1 g)⟩⟩
  · exact h.elim

theorem whole_val {P : Program} {t : TypeId} {vs : List Value} {k : SV → Prop} (h : whole P t vs k) :
    ∃ v, k (.val v) ∧ ∀ u : Value, u.cells.toList = vs → ((∃ a, u = .agg a) ↔ aggT P t = some true) → u = v := by
  unfold whole wholeB at h
  split at h
  · rename_i ha
    refine ⟨_, h.2, fun u hu hag => ?_⟩
    obtain ⟨a, rfl⟩ := hag.2 ha
    rw [← hu]
    simp [Value.cells]
  · rename_i ha
    unfold whole1 at h
    split at h
    · rename_i v
      refine ⟨_, h, fun u hu hag => ?_⟩
      have hno : ¬ ∃ a, u = .agg a := fun hh => by have := hag.1 hh; rw [ha] at this; cases this
      cases u <;> first | (simp [Value.cells] at hu; exact hu) | (exact absurd ⟨_, rfl⟩ hno)
    · exact h.elim
  · exact h.elim

theorem pvLookup_sound {P : Program} {M : List Res} {Z : Heap} {G : Prop} {t : TypeId} {x key : SV} {ok : Bool} {k : SV → Prop} (h : pvLookup P M Z G t x key ok k) :
    ∃ r, k r ∧ ∀ (E : Env) (w : World) (v u : Value), Mem E M Z w → G → has M x v → has M key u → ∃ y, (Instr.lookup t v u ok).run P w = .ok y w ∧ has M r y := by
  unfold pvLookup pvLookT pvLookZ at h
  split at h
  · rename_i kt e ht
    split at h
    · rename_i key z hz
      obtain ⟨es, ⟨hkeys, hs⟩, hmap⟩ := mapEs_sound h
      unfold exShape at hs
      split at hs
      · obtain ⟨vs, hc, hw⟩ := exVals_sound hs
        obtain ⟨y, hy, hyy⟩ := whole_val hw
        cases ok with
        | false =>
          refine ⟨_, hy, fun E w v u hm g hv hu => ?_⟩
          simp only [has] at hu
          subst hu
          refine ⟨_, run_lookupE ht hz (hmap E w v hm g hv) (hkeys g) false, ?_⟩
          have := hyy _ (hc g).1 (hc g).2
          simp [has, this]
        | true =>
          refine ⟨_, hy, fun E w v u hm g hv hu => ?_⟩
          simp only [has] at hu
          subst hu
          refine ⟨_, run_lookupE ht hz (hmap E w v hm g hv) (hkeys g) true, ?_⟩
          have := hyy _ (hc g).1 (hc g).2
          simp [has, this]
      · exact hs.elim
    · exact h.elim
  · exact h.elim

/-! ## len -/
def lenMap (k : SV → Prop) (es : Array MapEntry) : Prop := k (.val (.int .i64 es.size))
end Go.SX
