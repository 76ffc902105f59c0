/- A small layer for proofs about calls: equality of arrays of numbers and of small structs. -/
import Derived.Test.YtaecppimppeebaaDoorSx6
import Derived.ChangeKeysEq
namespace Go.SX
open Go

theorem run_part_one {P : Program} {e : TypeId} {d : TypeDesc} (hu : P.underlying e = some d) (hd : ∀ fs, d ≠ .struct fs) (hd' : ∀ n e, d ≠ .array n e) {xs : Array Value} {off : Nat} {v : Value} (hx : xs[off]? = some v) (w : World) :
    (part e xs off).run P w = .ok v w := by
  cases d <;> first | (exact absurd rfl (hd _)) | (exact absurd rfl (hd' _ _)) | (simp [part, isAgg, run_underlying hu, hx])

theorem run_eqItems_ints {P : Program} {e : TypeId} {kd kd' : IntKind} (he : P.underlying e = some (.int kd')) (hc : P.cellsOf e = 1) (d : Nat) (l m : List Int) (w : World) :
    ∀ (j k : Nat), k + j = l.length → k + j = m.length →
    (Op.eqItems (d + 1) e (P.cellsOf e) (l.map (Value.int kd)).toArray (m.map (Value.int kd)).toArray (List.range' k j)).run P w = .ok (decide (l.drop k = m.drop k)) w
  | 0, k, h1, h2 => by
    have e1 : l.drop k = [] := by rw [List.drop_eq_nil_iff]; omega
    have e2 : m.drop k = [] := by rw [List.drop_eq_nil_iff]; omega
    simp [Op.eqItems, e1, e2]
  | j + 1, k, h1, h2 => by
    have hl : k < l.length := by omega
    have hm : k < m.length := by omega
    have p1 : (part e (l.map (Value.int kd)).toArray (k * P.cellsOf e)).run P w = .ok (.int kd l[k]) w :=
      run_part_one he (by intro fs; simp) (by intro n e; simp) (by simp [hc, hl]) w
    have p2 : (part e (m.map (Value.int kd)).toArray (k * P.cellsOf e)).run P w = .ok (.int kd m[k]) w :=
      run_part_one he (by intro fs; simp) (by intro n e; simp) (by simp [hc, hm]) w
    have p3 := run_equalIn_int (P := P) w d e kd kd' l[k] m[k] he
    have ih := run_eqItems_ints he hc d l m w j (k + 1) (by omega) (by omega) (kd := kd)
    rw [List.range'_succ, Op.eqItems]
    simp only [Sem.run_bind, p1, p2, p3, Result.andThen_ok]
    rw [List.drop_eq_getElem_cons hl, List.drop_eq_getElem_cons hm]
    by_cases hx : l[k] = m[k]
    · simp only [hx, beq_self_eq_true, Bool.not_true, Bool.false_eq_true, if_false, ih, List.cons.injEq, true_and]
    · have hb : (l[k] == m[k]) = false := by simpa using hx
      rw [hb, decide_eq_false (fun h => hx (List.cons.inj h).1)]
      simp

/-- two arrays of numbers are equal if their lists are -/
theorem eqT_ints {P : Program} {t e : TypeId} {n : Nat} {kd kd' : IntKind} {i : TypeInfo} (hg : P.eqGuardType P.depth t = false) (hu : P.underlying t = some (.array n e)) (hi : P.info? e = some i)
    (he : P.underlying e = some (.int kd')) (hc : P.cellsOf e = 1) (l m : List Int) (hl : l.length = n) (hm : m.length = n) :
    EqT P t (.agg (l.map (Value.int kd)).toArray) (.agg (m.map (Value.int kd)).toArray) (decide (l = m)) := by
  refine ⟨hg, fun w => ?_⟩
  rw [run_equalIn_array w 9999 _ _ hu hi, List.range_eq_range']
  have := run_eqItems_ints (kd := kd) he hc 9998 l m w n 0 (by omega) (by omega)
  simpa using this

theorem run_eqItems_bytes {l m : List UInt8} : (decide (l.map (fun c => (c.toNat : Int)) = m.map (fun c => (c.toNat : Int)))) = decide (l = m) := by
  congr 1
  apply propext
  constructor
  · intro h
    refine List.map_inj_right (f := fun c : UInt8 => (c.toNat : Int)) ?_ |>.1 h
    intro a b hab
    have : a.toNat = b.toNat := by exact_mod_cast hab
    exact UInt8.toNat_inj.1 this
  · rintro rfl; rfl
theorem eqT_bytes {P : Program} {t e : TypeId} {n : Nat} {kd' : IntKind} {i : TypeInfo} (hg : P.eqGuardType P.depth t = false) (hu : P.underlying t = some (.array n e)) (hi : P.info? e = some i)
    (he : P.underlying e = some (.int kd')) (hc : P.cellsOf e = 1) (l m : List UInt8) (hl : l.length = n) (hm : m.length = n) :
    EqT P t (.agg (l.map byteV).toArray) (.agg (m.map byteV).toArray) (decide (l = m)) := by
  have := eqT_ints (kd := .u8) hg hu hi he hc (l.map fun c => (c.toNat : Int)) (m.map fun c => (c.toNat : Int)) (by simpa using hl) (by simpa using hm)
  rw [run_eqItems_bytes, List.map_map, List.map_map] at this
  exact this
/-- two structs of a number and a string -/
theorem eqT_intString {P : Program} {t e1 e2 : TypeId} {kd kd' : IntKind} (hg : P.eqGuardType P.depth t = false) (hp : P.stoodInHeld t = false) (hu : P.underlying t = some (.struct (P.fieldsOf t)))
    (hf : ((P.fieldsOf t).toList.map fun f => (f.type, f.offset)) = [(e1, 0), (e2, 1)]) (hn : (P.fieldsOf t).toList.all (fun f => decide (f.name ≠ "_")) = true)
    (h1 : P.underlying e1 = some (.int kd')) (h2 : P.underlying e2 = some .string) (x y : Int) (s u : ByteArray) :
    EqT P t (.agg #[.int kd x, .string s]) (.agg #[.int kd y, .string u]) (decide (x = y) && decide (s.data.toList = u.data.toList)) := by
  refine ⟨hg, fun w => ?_⟩
  rw [run_equalIn_struct w 9999 _ _ _ hu hp]
  generalize (P.fieldsOf t).toList = fs at hf hn
  rcases fs with _ | ⟨f, _ | ⟨g, _ | ⟨_, _⟩⟩⟩ <;> simp only [List.map_cons, List.map_nil, List.cons.injEq, Prod.mk.injEq, and_true, reduceCtorEq, and_false] at hf
  obtain ⟨⟨r1, r2⟩, r3, r4⟩ := hf
  simp only [List.all_cons, List.all_nil, Bool.and_true, Bool.and_eq_true, decide_eq_true_eq] at hn
  have p1 : (part e1 #[Value.int kd x, .string s] 0).run P w = .ok (.int kd x) w := run_part_one h1 (by intro fs; simp) (by intro n e; simp) rfl w
  have p2 : (part e1 #[Value.int kd y, .string u] 0).run P w = .ok (.int kd y) w := run_part_one h1 (by intro fs; simp) (by intro n e; simp) rfl w
  have p3 : (part e2 #[Value.int kd x, .string s] 1).run P w = .ok (.string s) w := run_part_one h2 (by intro fs; simp) (by intro n e; simp) rfl w
  have p4 : (part e2 #[Value.int kd y, .string u] 1).run P w = .ok (.string u) w := run_part_one h2 (by intro fs; simp) (by intro n e; simp) rfl w
  have p5 : (Op.equalIn 9999 e1 (.int kd x) (.int kd y)).run P w = .ok (x == y) w := run_equalIn_int (P := P) w 9998 e1 kd kd' x y h1
  have p6 : (Op.equalIn 9999 e2 (.string s) (.string u)).run P w = .ok (decide (s.data.toList = u.data.toList)) w := by
    have := run_equalIn_string (P := P) w 9998 e2 s u h2
    rw [ByteArray.toList_eq, ByteArray.toList_eq, beq_dec] at this
    exact this
  simp only [Op.eqFields, if_pos hn.1, if_pos hn.2, r1, r2, r3, r4, Sem.run_bind, p1, p2, Result.andThen_ok]
  rw [p5, Result.andThen_ok]
  by_cases hx : x = y
  · subst hx
    simp only [beq_self_eq_true, Bool.not_true, Bool.false_eq_true, if_false, Sem.run_bind, p3, p4, Result.andThen_ok, decide_true, Bool.true_and]
    rw [p6, Result.andThen_ok]
    by_cases hy : s.data.toList = u.data.toList <;> simp [hy]
  · have : (x == y) = false := by simpa using hx
    simp [hx]
end Go.SX
