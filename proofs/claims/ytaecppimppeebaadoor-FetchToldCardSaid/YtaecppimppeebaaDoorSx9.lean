/- A small layer for proofs about calls, part 9: append. -/
import Derived.Test.YtaecppimppeebaaDoorSx8
namespace Go.SX
open Go

/-- the world has turned at one resource's block alone; its place, and what is said of the others, may turn -/
theorem Mem.turnG {E : Env} {M M' : List Res} {Z : Heap} {w w' : World} (h : Mem E M Z w) {i : Nat} {r r' : Res} (hi : M[i]? = some r)
    (hw : Kept w (fun c => r.key = some c) w')
    (hat : ∀ (j : Nat) (r1 : Res), M'[j]? = some r1 → (j ≠ i ∧ ∃ r0, M[j]? = some r0 ∧ r1.key = r0.key ∧ (OwnRes M w' r0 → OwnRes M' w' r1)) ∨ (j = i ∧ r1 = r'))
    (hk : ∀ c, r'.key = some c → r.key = some c ∨ w.heap.size ≤ c) (hr : OwnRes M' w' r') : Mem E M' Z w' := by
  have hbz : ∀ c o, Z c = some o → r.key ≠ some c := fun c o hc e => by rw [h.free i r c hi e] at hc; cases hc
  refine ⟨fun c o hc => (hw.block c (heap_lt (h.frozen c o hc)) (hbz c o hc)).trans (h.frozen c o hc), ?_, ?_, ?_, ?_, h.zold, ?_⟩
  · intro j r1 hj
    rcases hat j r1 hj with ⟨hne, r0, hj0, hkey, ho⟩ | ⟨rfl, rfl⟩
    · exact ho ((h.own j r0 hj0).same fun c hc => hw.block c (h.lt hj0 hc) fun e => h.apart i j r r0 c (fun e => hne e.symm) hi hj0 e hc)
    · exact hr
  · intro j k r1 r2 c hjk hj hk' hc hc'
    rcases hat j r1 hj with ⟨hne, r0, hj0, hkey, ho⟩ | ⟨e1, e2⟩
    · rcases hat k r2 hk' with ⟨hne', r3, hk0, hkey', ho'⟩ | ⟨e1, e2⟩
      · rw [hkey] at hc; rw [hkey'] at hc'
        exact h.apart j k r0 r3 c hjk hj0 hk0 hc hc'
      · rw [e2] at hc'
        rw [hkey] at hc
        rcases hk c hc' with e | hge
        · exact h.apart j _ r0 r c hne hj0 hi hc e
        · have := h.lt hj0 hc; omega
    · rw [e2] at hc
      rcases hat k r2 hk' with ⟨hne', r3, hk0, hkey', ho'⟩ | ⟨e3, e4⟩
      · rw [hkey'] at hc'
        rcases hk c hc with e | hge
        · exact h.apart k _ r3 r c hne' hk0 hi hc' e
        · have := h.lt hk0 hc'; omega
      · exact hjk (e1.trans e3.symm)
  · intro j r1 c hj hc
    rcases hat j r1 hj with ⟨hne, r0, hj0, hkey, ho⟩ | ⟨rfl, rfl⟩
    · rw [hkey] at hc; exact h.free j r0 c hj0 hc
    · rcases hk c hc with e | hge
      · exact h.free _ r c hi e
      · cases hz : Z c with
        | none => rfl
        | some o' => have := heap_lt (h.frozen _ _ hz); omega
  · intro j r1 c hj hc
    rcases hat j r1 hj with ⟨hne, r0, hj0, hkey, ho⟩ | ⟨rfl, rfl⟩
    · rw [hkey] at hc; exact h.mine j r0 c hj0 hc
    · rcases hk c hc with e | hge
      · exact h.mine _ r c hi e
      · exact .inl (Nat.le_trans h.kept.size hge)
  · refine h.kept.trans hw fun x hx e => ?_
    rcases h.mine i r x hi e with h1 | h1
    · omega
    · exact h1

theorem killM_places (M : List Res) (i : Nat) : Places M (M.map (killM i)) := by
  intro j r hj
  refine ⟨killM i r, by rw [List.getElem?_map, hj]; rfl, ?_, ?_, ?_, ?_, ?_⟩ <;> cases r <;> simp [killM, Res.ptrAt, Res.rowVal, Res.rptrAt, Res.mapVal, Res.slAt]
theorem has_killM {M : List Res} {i : Nat} {r' : Res} {s : SV} {x : Value} (h : has M s x) : has ((M.map (killM i)).set i r') (kill i s) x :=
  has_kill ((killM_places M i).has_ _ _ h)
theorem kill_any (i : Nat) : kill i .any = .any := by simp [kill]

theorem Mem.regrow {E : Env} {M : List Res} {Z : Heap} {w w' : World} (h : Mem E M Z w) {i : Nat} {r r' : Res} (hi : M[i]? = some r) (hw : Kept w (fun c => r.key = some c) w')
    (hk : ∀ c, r'.key = some c → r.key = some c ∨ w.heap.size ≤ c) (hr : OwnRes ((M.map (killM i)).set i r') w' r') : Mem E ((M.map (killM i)).set i r') Z w' := by
  have hlt : i < M.length := (List.getElem?_eq_some_iff.1 hi).1
  refine h.turnG hi hw (fun j r1 hj => ?_) hk hr
  rw [List.getElem?_set] at hj
  by_cases hij : i = j
  · subst hij; simp [hlt] at hj; exact .inr ⟨rfl, hj.symm⟩
  · simp only [hij, if_false, List.getElem?_map, Option.map_eq_some_iff] at hj
    obtain ⟨r0, hj0, rfl⟩ := hj
    refine .inl ⟨fun e => hij e.symm, r0, hj0, by cases r0 <;> rfl, fun ho => ?_⟩
    cases r0 with
    | blk b cs ty =>
      obtain ⟨vs, h1, h2, h3⟩ := ho
      refine ⟨vs, h1, by simp [h2], fun k c hc => ?_⟩
      rw [List.getElem?_map, Option.map_eq_some_iff] at hc
      obtain ⟨d, hd, rfl⟩ := hc
      exact has_killM (h3 k d hd)
    | _ => exact ho

/-- a resource is taken in -/
theorem Mem.add {E : Env} {M : List Res} {Z : Heap} {w w' : World} (h : Mem E M Z w) {r : Res} (hw : Kept w (fun _ => False) w') (hk : ∀ c, r.key = some c → w.heap.size ≤ c)
    (hr : OwnRes (M ++ [r]) w' r) : Mem E (M ++ [r]) Z w' := by
  have hat : ∀ (j : Nat) (r1 : Res), (M ++ [r])[j]? = some r1 → M[j]? = some r1 ∨ (j = M.length ∧ r1 = r) := by
    intro j r1 hj
    rw [List.getElem?_append] at hj
    split at hj
    · exact .inl hj
    · right
      have : j - M.length = 0 := by
        cases hd : j - M.length with
        | zero => rfl
        | succ n => rw [hd] at hj; simp at hj
      rw [this] at hj
      simp at hj
      exact ⟨by omega, hj.symm⟩
  have hg : ∀ s x, has M s x → has (M ++ [r]) s x := (Grows.append M [r]).places.has_
  refine ⟨fun c o hc => (hw.block c (heap_lt (h.frozen c o hc)) (fun f => f)).trans (h.frozen c o hc), ?_, ?_, ?_, ?_, h.zold, h.kept.trans hw fun _ _ f => f.elim⟩
  · intro j r1 hj
    rcases hat j r1 hj with hj1 | ⟨rfl, rfl⟩
    · exact ((h.own j r1 hj1).mono hg).same fun c hc => hw.block c (h.lt hj1 hc) (fun f => f)
    · exact hr
  · intro j k r1 r2 c hjk hj hk' hc hc'
    rcases hat j r1 hj with hj1 | ⟨e1, e2⟩
    · rcases hat k r2 hk' with hk1 | ⟨e1, e2⟩
      · exact h.apart j k r1 r2 c hjk hj1 hk1 hc hc'
      · rw [e2] at hc'; have := h.lt hj1 hc; have := hk c hc'; omega
    · rw [e2] at hc
      rcases hat k r2 hk' with hk1 | ⟨e3, e4⟩
      · have := h.lt hk1 hc'; have := hk c hc; omega
      · exact hjk (e1.trans e3.symm)
  · intro j r1 c hj hc
    rcases hat j r1 hj with hj1 | ⟨e1, e2⟩
    · exact h.free j r1 c hj1 hc
    · rw [e2] at hc
      have := hk c hc
      cases hz : Z c with
      | none => rfl
      | some o' => have := heap_lt (h.frozen _ _ hz); omega
  · intro j r1 c hj hc
    rcases hat j r1 hj with hj1 | ⟨e1, e2⟩
    · exact h.mine j r1 c hj1 hc
    · rw [e2] at hc
      exact .inl (Nat.le_trans h.kept.size (hk c hc))

/-- where what is appended comes from -/
structure Src (P : Program) (w : World) (x : Value) (size m : Nat) (news : List Value) : Prop where
  len : ∀ W, (Builtin.lenOf x).run P W = .ok m W
  cells : ∀ W, (∀ a, W.cell? a = w.cell? a) → (Builtin.firstCells size m x).run P W = .ok news.toArray W

theorem run_append_src {P : Program} (w : World) {t u ty e : TypeId} {i : TypeInfo} {z : Value} {size bytes : Nat} (ht : P.underlying t = some (.slice e)) (hu : u = t ∨ P.underlying u = some .string) (hi : P.info? e = some i)
    (hz : i.zero = some z) (hsize : i.size = size) (hby : i.bytes = bytes) (hzs : z.cells.size = size) (hsz : 0 < size) {v x : Value} {n m : Nat} {xs news : List Value} (hown : w.ownsRow 0 e size v n xs)
    (hx : Src P w x size m news) (hl : news.length = m * size) (h1 : ∀ c ∈ news, c.oneCell' = true) (h63 : n + m ≤ maxLen) (hbytes : (n + m) * bytes ≤ 140737488355328) :
    ∃ v' w', (Builtin.append_ #[t, u] ty #[v, x]).run P w = .ok v' w' ∧ w'.ownsRow 0 e size v' (n + m) (xs ++ news) ∧ Kept w (fun c => v.ownBlock = some c) w' ∧ (v'.ownBlock = v.ownBlock ∨ v'.ownBlock = some w.heap.size) := by
  subst hsize
  subst hby
  have hsmall : n + m ≤ 9223372036854775807 := by simp only [maxLen] at h63; omega
  have hlen : (xs ++ news).length = (n + m) * i.size := by rw [List.length_append, hown.1, hl, Nat.add_mul]
  have hzeros : ∀ W : World, (do pure ((← underlying u) matches .int _) : Sem Bool).run P W = .ok false W := by
    intro W
    rcases hu with rfl | hu
    · simp [run_underlying ht]
    · simp [run_underlying hu]
  have hget : (#[t, u] : Array TypeId)[1]? = some u := rfl
  have hcw := hx.cells w (fun _ => rfl)
  have hcd := hx.cells w.drew (fun _ => rfl)
  have hl0 := hx.len
  have grown : ∀ (old : Nat), old < n + m →
      (w.drew.alloc (.cells (xs.toArray ++ news.toArray ++ Builtin.zeroCells z.cells (grownCap w (n + m) old e - (n + m))) e)).ownsRow 0 e i.size
        (.slice (some ⟨w.heap.size, 0, none⟩) (n + m) (grownCap w (n + m) old e)) (n + m) (xs ++ news) ∧
      ∀ K, Kept w K (w.drew.alloc (.cells (xs.toArray ++ news.toArray ++ Builtin.zeroCells z.cells (grownCap w (n + m) old e - (n + m))) e)) := by
    intro old ho
    have hge := grownCap_ge w (n + m) old e
    have hcm : grownCap w (n + m) old e ≤ maxLen := grownCap_le_maxLen w (n + m) old e h63
    refine ⟨⟨hlen, .inr ⟨w.heap.size, _, _, rfl, Nat.zero_le _, heap_alloc_new w.drew _, hge, hcm, ?_, ?_⟩⟩, fun K => ⟨rfl, rfl, rfl, by simp, fun k hk _ => heap_alloc_lt (w := w.drew) hk⟩⟩
    · simp only [Array.size_append, List.size_toArray, size_zeroCells, hzs, hown.1, hl, ← Nat.add_mul]
      congr 1
      omega
    · simp only [Array.toList_append, List.append_assoc]
      rw [← List.append_assoc, ← hlen]
      exact List.take_left
  rcases hown.2 with ⟨rfl, rfl⟩ | ⟨g, cap, cur, rfl, hbg, hg, hnc, hcm, hcs, htake⟩
  · have hx0 : xs = [] := List.eq_nil_of_length_eq_zero (by simpa using hown.1)
    subst hx0
    by_cases hm : m = 0
    · subst hm
      have hn : news = [] := List.eq_nil_of_length_eq_zero (by simpa using hl)
      subst hn
      refine ⟨.slice none 0 0, w, ?_, World.ownsRow_nil w 0 e i.size, Kept.refl _ _, Or.inl rfl⟩
      simp only [Builtin.append_, hget, sizeOf, typeInfo]
      rcases hu with rfl | hu
      · simp [run_underlying ht, hi, hl0, hcw]
      · simp [run_underlying ht, run_underlying hu, hi, hl0, hcw]
    · have hgr := grown 0 (by omega)
      have h0 : m ≠ 0 := hm
      have h63' : ¬ (9223372036854775807 < (m : Int)) := by omega
      have h48' : ¬ (281474976710656 < Builtin.nextslicecap m 0 * i.bytes) := by
        rw [nextslicecap_zero (by omega)]
        simp only [Nat.zero_add] at hbytes
        omega
      simp only [Nat.zero_add, List.nil_append, Array.empty_append] at hgr ⊢
      refine ⟨_, _, ?_, hgr.1, hgr.2 _, Or.inr rfl⟩
      rcases hu with rfl | hu
      · simp [Builtin.append_, run_underlying ht, sizeOf, typeInfo, zeroValue, hi, hz, hl0, h0, h63', h48', Question.forced, run_firstCells_none, hcd, newRow, grownCap]
      · simp [Builtin.append_, run_underlying ht, run_underlying hu, sizeOf, typeInfo, zeroValue, hi, hz, hl0, h0, h63', h48', Question.forced, run_firstCells_none, hcd, newRow, grownCap]
  · by_cases hroom : n + m ≤ cap
    · have hfit : n * i.size + news.length ≤ cur.size := by rw [hl, hcs, ← Nat.add_mul]; exact Nat.mul_le_mul_right _ hroom
      have hst := run_storeCells_at (P := P) g (n * i.size) e news 0 cur w hg (by omega) h1
      simp only [Nat.add_zero] at hst
      refine ⟨.slice (some ⟨g, 0, none⟩) (n + m) cap, _, ?_, ⟨hlen, .inr ⟨g, cap, _, rfl, hbg, setRow_heap w g cur (cur.toList.take (n * i.size) ++ news ++ cur.toList.drop (n * i.size + news.length)).toArray e _ hg, hroom, hcm, ?_, ?_⟩⟩, ⟨rfl, rfl, rfl, by simp, fun k _ hk => setRow_other w g k _ (fun e => hk (by simp [Value.ownBlock, e]))⟩, Or.inl rfl⟩
      · rcases hu with rfl | hu
        · simp [Builtin.append_, run_underlying ht, sizeOf, typeInfo, hi, hl0, hroom, hcw, lit_add, hst]
        · simp [Builtin.append_, run_underlying ht, run_underlying hu, sizeOf, typeInfo, hi, hl0, hroom, hcw, lit_add, hst]
      · simp only [List.size_toArray, List.length_append, List.length_take, List.length_drop, Array.length_toList]
        omega
      · rw [htake, ← hlen]
        exact List.take_left
    · have holds : ∀ j u, xs[j]? = some u → w.cell? ((⟨g, 0, none⟩ : Addr).add j) = some u := hown.cells (g := g) rfl
      have hfo := run_firstCells_some (P := P) w.drew i.size n ⟨g, 0, none⟩ n cap xs hown.1 (by simpa using holds)
      have hn : ¬ (n + m ≤ cap) := hroom
      have h63' : ¬ (9223372036854775807 < ((n : Int) + (m : Int))) := by omega
      have hfit := growslice_fits (old := cap) (need := n + m) (bytes := i.bytes) (by omega) hbytes
      have h48' : ¬ (281474976710656 < Builtin.nextslicecap (n + m) cap * i.bytes) := by omega
      have hgr := grown cap (by omega)
      refine ⟨_, _, ?_, hgr.1, hgr.2 _, Or.inr rfl⟩
      rcases hu with rfl | hu
      · simp [Builtin.append_, run_underlying ht, sizeOf, typeInfo, zeroValue, hi, hz, hl0, hn, h63', h48', Question.forced, hcd, hfo, newRow, grownCap]
        congr 2
        apply Array.ext'
        simp [List.append_assoc]
      · simp [Builtin.append_, run_underlying ht, run_underlying hu, sizeOf, typeInfo, zeroValue, hi, hz, hl0, hn, h63', h48', Question.forced, hcd, hfo, newRow, grownCap]
        congr 2
        apply Array.ext'
        simp [List.append_assoc]

end Go.SX
