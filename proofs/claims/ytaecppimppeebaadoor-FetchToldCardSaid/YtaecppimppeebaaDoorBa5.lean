/- fetch.Texts: what the code computes. -/
import Derived.Test.YtaecppimppeebaaDoorBa6
import Derived.Test.YtaecppimppeebaaDoorSxJ
namespace Go.Proofs.YtaecppimppeebaaDoor
open Go Go.SX

theorem frameP_len (l : List UInt8) : (frameP l).length = 9 + (digP l.length).length + l.length := by
  simp only [frameP, frameT, putP, List.length_append, List.length_cons, idP_len]; omega
/-- the frames of all blobs, or what is wrong -/
def allP : List (Int × List UInt8) → List UInt8 → Except Int (List UInt8)
  | [], acc => .ok acc
  | (k, l) :: r, acc => if pidP k l ≠ 0 then .error (pidP k l) else if 4096 < (blobT k l).length then .error 2 else if 2048000 < (acc ++ frameP (blobT k l)).length then .error 2 else allP r (acc ++ frameP (blobT k l))
theorem rds_shift {Z : Heap} {bk o k n : Nat} {vs : List Value} (h : Rds Z (some ⟨bk, o, none⟩) 0 vs) : Rds Z (some ⟨bk, o + k, none⟩) 0 ((vs.drop k).take n) := fun j v hv => by
  rw [List.getElem?_take] at hv
  split at hv
  · rw [List.getElem?_drop] at hv
    have := h _ _ hv
    simp only [rd, Option.bind_some, Nat.zero_add, lit_add, Nat.add_assoc] at this ⊢
    exact this
  · cases hv
theorem uptoS_map {β : Type} (n : Nat) (f : Nat → β) : ∀ k, k ≤ pieces n → (uptoS n k).map (fun j => f j.1) = (List.range k).map f
  | 0, _ => rfl
  | k + 1, h => by rw [uptoS_succ h, List.map_append, uptoS_map n f k (by omega), List.range_succ, List.map_append]; rfl
structure TextI (l : List (Int × List UInt8)) where
  k : Nat
  acc : List UInt8
  A : Option Addr
  cap : Nat
  hk : k ≤ l.length
  ha : acc.length ≤ 2048000
  he : allP (l.drop k) acc = allP l []
/-- the pieces of 1024 bytes -/
def splitP (xs : List UInt8) : List (List UInt8) := (List.range (pieces xs.length)).map fun j => (xs.drop (1024 * j)).take 1024
def texted (l : List (Int × List UInt8)) (v : Value) (Z : Heap) : Prop :=
  match allP l [] with
  | .error e => v = .tuple #[.slice none 0 0, .int .i64 e]
  | .ok xs => ∃ A cap, v = .tuple #[.slice A (splitP xs).length cap, .int .i64 0] ∧ Rds Z A 0 (scells (splitP xs)) ∧ (splitP xs).length ≤ cap
theorem pidV_form (k : Int) (l : List UInt8) : ∃ c : List Int, c.length = 8 ∧ pidV k l = .agg (c.map (Value.int .u8)).toArray := by
  unfold pidV
  split
  · exact ⟨(idP (blobT k l)).map fun c => (c.toNat : Int), by simp [idP_len], by rw [List.map_map]; rfl⟩
  · exact ⟨List.replicate 8 0, by simp, by rw [List.map_replicate]⟩
/-- the loop is over -/
def allDone (l : List (Int × List UInt8)) (Z : Heap) (s : SS) : Prop :=
  ∃ A cap xs, allP l [] = .ok xs ∧ xs.length ≤ 2048000 ∧ Incl 58 s ⟨[(4, .row 0)], [.row A cap 5 1 xs.length (xs.map byteV)], Z⟩
set_option maxHeartbeats 4000000 in
set_option maxRecDepth 20000 in
theorem texts_any (Z : Heap) (A : Option Addr) (cap : Nat) (l : List (Int × List UInt8)) (h : Rds Z A 0 (bcells l)) (hn : l.length ≤ 9223372036854775807) :
    FnH Tryd.prog 5 [.slice A l.length cap] Z (texted l) := by
  refine fnH_marks Tryd.func5 rfl (Nat.le_of_ble_eq_true rfl) fun w0 a0 hr0 => ?_
  refine piece (K := fun s => s = ⟨[(3, .val (.int .i64 0)), (2, .val (.slice none 0 0)), (0, .val (.slice A l.length cap))], [], Z⟩) (Qr := fun _ _ => False) hr0 (by simp only [go_sem]) ?_ (fun e s a w hr hq => by cases e <;> exact hq.elim)
  rintro _ a1 w1 hr1 rfl
  refine piece (K := fun s => s = ⟨[(4, .val (.slice none 0 0)), (3, .val (.int .i64 0)), (2, .val (.slice none 0 0)), (0, .val (.slice A l.length cap))], [], Z⟩) (Qr := fun _ _ => False) hr1 (by simp only [go_sem]) ?_ (fun e s a w hr hq => by cases e <;> exact hq.elim)
  rintro _ a2 w2 hr2 rfl
  refine piece (K := allDone l Z) (Qr := retQ Tryd.prog Tryd.f5 (finH Z (texted l))) hr2 ?_ ?_ (fun e s a w hr hq => ?_)
  · simp only [go_sem]
    refine vcLoop_intro (ι := TextI l)
      (fun u => ⟨[(15, .val (.int .i64 u.k)), (14, .val (.int .i64 l.length)), (13, .val (.slice A l.length cap)), (4, .row 0)], [.row u.A u.cap 5 1 u.acc.length (u.acc.map byteV)], Z⟩)
      (fun u => l.length - u.k) ⟨0, [], none, 0, by omega, by simp, by simp⟩ ((incl_adopt 4 5 1 rfl).trans (incl_of (by simp only [go_sem] <;> simp))) ?_
    rintro ⟨k, acc, A2, cap2, hk, ha, he⟩
    simp only [go_sem]
    refine ⟨fun hlt => ?_, fun hge => ?_⟩
    · have hlt' : k < l.length := by simpa using hlt
      obtain ⟨hs, hr'⟩ := rds_b h hlt'
      refine ⟨⟨hs, by omega, by omega⟩, _, _, hr', ?_⟩
      rw [List.drop_eq_getElem_cons hlt'] at he
      generalize l[k] = x at he ⊢
      obtain ⟨kd, t⟩ := x
      simp only [go_sem]
      intro b
      refine vcCall_E [.agg #[.int .i64 kd, .string (bs t)]] rfl (packId_any _ kd t) ?_
      obtain ⟨c, hc, hcv⟩ := pidV_form kd t
      obtain ⟨c0, c1, c2, c3, c4, c5, c6, c7, rfl⟩ := len8 hc
      rw [hcv]
      simp only [go_sem]
      intro b1
      refine ⟨fun hbad => fun Z' hz hf => ?_, fun hgood => fun b2 => ⟨[UInt8.ofNat (IntKind.u8.wrap kd).toNat], ⟨rfl, by simp only [List.map_cons, List.map_nil, byteV, u8_back]⟩, ?_, ?_⟩⟩
      · have hb : pidP kd t ≠ 0 := by simpa using hbad
        simp only [allP, if_pos hb] at he
        unfold texted
        rw [← he]
      · have hg : pidP kd t = 0 := by simpa using hgood
        have ht : t.length ≤ 4096 := by
          unfold pidP at hg
          split at hg
          · split at hg
            · cases hg
            · omega
          · cases hg
        simp only [List.length_cons, List.length_nil]; omega
      · have hg : pidP kd t = 0 := by simpa using hgood
        have ht : t.length ≤ 4096 := by
          unfold pidP at hg
          split at hg
          · split at hg
            · cases hg
            · omega
          · cases hg
        simp only [allP, if_neg (show ¬ (pidP kd t ≠ 0) by omega)] at he
        have hbl : (blobT kd t).length ≤ 4097 := by simp [blobT]; omega
        have hfr := frame_any Z (blobT kd t) (by omega)
        by_cases h4 : 4096 < (blobT kd t).length
        · rw [if_pos h4] at hfr he
          refine vcCall_E _ rfl hfr ?_
          simp only [go_sem]
          intro Z' hz hf
          unfold texted
          rw [← he]
        · rw [if_neg h4] at hfr he
          refine vcCall_E _ rfl hfr ?_
          have hfl := frameP_len (blobT kd t)
          have hdl := digP_len (blobT kd t).length
          generalize frameP (blobT kd t) = fr at he hfl ⊢
          simp only [go_sem]
          refine ⟨by unfold maxLen; omega, by omega, fun A' cap' => ⟨fun hbig => fun Z' hz hf => ?_, fun hsm => ⟨by unfold inI64; omega, ?_⟩⟩⟩
          · have hb : 2048000 < (acc ++ fr).length := by simp at hbig ⊢; omega
            rw [if_pos hb] at he
            unfold texted
            rw [← he]
          · have hb : ¬ 2048000 < (acc ++ fr).length := by simp at hsm ⊢; omega
            rw [if_neg hb] at he
            refine ⟨⟨k + 1, acc ++ fr, A', cap', by omega, by simp at hb ⊢; omega, he⟩, by simp only []; omega, ?_⟩
            simp only [List.length_append, List.map_append]
            exact incl_take 1 rfl (by simp only [go_sem] <;> simp) (by simp only [go_sem]) (by simp only [go_sem])
    · have hk' : k = l.length := by
        have : ¬ k < l.length := by simpa using hge
        omega
      subst hk'
      rw [List.drop_length] at he
      exact ⟨A2, cap2, acc, he.symm, ha, incl_of (by simp only [go_sem] <;> simp)⟩
  · rintro s' a3 w3 hr3 ⟨A2, cap2, xs, hok, hlen, hin⟩
    have hr4 := hin _ _ _ hr3
    clear hr3 hin hr0 hr1 hr2
    obtain ⟨Z1, hz1, hm1, hf1, _⟩ := hr4.mem.freeze
    have hb1 : Rds Z1 A2 0 (xs.map byteV) := hf1.1.1
    have hcap : xs.length ≤ cap2 := hf1.1.2
    have hr5 : Rel ⟨w0, keysOf [], Z⟩ 58 ⟨[(4, .val (.slice A2 xs.length cap2))], [], Z1⟩ a3 w3 := by
      refine ⟨⟨hr4.frame.1, fun i => ?_⟩, hr4.defers, hm1⟩
      simp only [Fr.get]
      split
      · rename_i e; subst e
        exact Eq.symm (has_den (M := [.row A2 cap2 5 1 xs.length (xs.map byteV)]) (s := .row 0) (hr4.frame.get 4) rfl)
      · trivial
    clear hr4 hf1 hm1
    refine piece (K := fun s => ∃ b, s = ⟨[(11, .ptr 0 0), (4, .val (.slice A2 xs.length cap2))], [.blk b [.val (.slice none 0 0)] 23], Z1⟩) (Qr := fun _ _ => False) hr5 (by simp only [go_sem]; exact fun b => ⟨b, rfl⟩) ?_ (fun e s a w hr hq => by cases e <;> exact hq.elim)
    rintro _ a4 w4 hr6 ⟨b, rfl⟩
    refine wp_seq ?_
    refine piece (K := fun s => ∃ v Z2, Z1.le Z2 ∧ chunked A2 xs.length cap2 1024 v Z2 ∧ s = ⟨[(50, .val v), (49, .val (.slice A2 xs.length cap2)), (11, .ptr 0 0), (4, .val (.slice A2 xs.length cap2))], [.blk b [.val (.slice none 0 0)] 23], Z2⟩) (Qr := fun _ _ => False) hr6 ?_ ?_ (fun e s a w hr hq => by cases e <;> exact hq.elim)
    · simp only [go_sem]
      refine vcCall_H _ rfl (chunk_any _ A2 xs.length cap2 1024 (by omega)) ?_
      intro v Z2 hz2 hv
      simp only [go_sem]
      exact ⟨v, Z2, hz2, hv, rfl⟩
    rintro _ a5 w5 hr7 ⟨v, Z2, hz2, ⟨b1, b2, rfl, hc1, hc2⟩, rfl⟩
    refine wp_block ?_
    have hb2 : Rds Z2 A2 0 (xs.map byteV) := fun j v hv => hz2.rd (hb1 j v hv)
    obtain ⟨bk, o, hA⟩ : ∃ bk o, xs ≠ [] → A2 = some ⟨bk, o, none⟩ := by
      cases xs with
      | nil => exact ⟨0, 0, fun h => absurd rfl h⟩
      | cons x r =>
        have h0 := hb2 0 _ rfl
        cases A2 with
        | none => simp [rd] at h0
        | some a =>
          obtain ⟨bk, o, sp⟩ := a
          refine ⟨bk, o, fun _ => ?_⟩
          cases sp with
          | none => rfl
          | some s =>
            simp [rd, Heap.cell, Addr.add] at h0
            split at h0 <;> simp at h0
    have hprog : Heap.le Z Z2 := Heap.le.trans hz1 hz2
    clear hb1 hz1 hz2 hr5 hr6 a3 w3 a4 w4
    refine range_wp (E := ⟨w0, keysOf [], Z⟩) (N := 58) (R := fun (pre : List {j : Nat // j < pieces xs.length}) M => ∃ A' cap', M = [.row A' cap' 9 1 pre.length (scells (pre.map fun j => (xs.drop (1024 * j.1)).take 1024)), .blk b [.row 0] 23])
      (F := [(11, .ptr 1 0)]) (Z := Z2) (enc := fun x => pieceV bk o xs.length x.1) (S := fun ys => ys = uptoS xs.length (pieces xs.length)) (Sp := fun _ => True) (Nm := pieces xs.length) (M0 := [.row none 0 9 1 0 [], .blk b [.row 0] 23])
      hr7.defers ?hF ?hcl ⟨none, 0, rfl⟩ (mem_adopt_box hr7.mem) (Eq.symm (hr7.frame.get 50)) (enters_of Tryd.func35 (by kernel_rfl) rfl) ?hseq rfl rfl rfl (by decide) (by decide) rfl ?hN ?hdf ?hbody ?hdone
    case hF =>
      rintro pre M ⟨A', cap', rfl⟩
      refine ⟨hr7.frame.1, fun i => ?_⟩
      simp only [Fr.get]
      split
      · rename_i e; subst e
        exact hr7.frame.get 11
      · trivial
    case hcl =>
      rintro pre M ⟨A', cap', rfl⟩ r hr
      simp at hr
      rcases hr with rfl | rfl <;> rfl
    case hseq =>
      intro l' J Jx W hW hJ hJx hY h0
      have hZ : Fzn Z2 W := fun c ob hc => (hW.block c (heap_lt (hr7.mem.frozen c ob hc))).trans (hr7.mem.frozen c ob hc)
      by_cases hxs : xs = []
      · subst hxs
        exact (chunk1_nil 2 l' b1 b2 cap2 A2 J Z2 hc1 W hZ h0).mono fun e W' ⟨he, hj⟩ => ⟨he, .inl ⟨_, rfl, hj⟩⟩
      · obtain rfl := hA hxs
        exact chunk1_in 2 (by omega) l' b1 b2 bk o xs.length cap2 hcap hlen Z2 J Jx hc1 hc2 hY (fun pre W1 hj => hJ pre W1 W1.drew none hj ⟨rfl, rfl, rfl, Nat.le_refl _, fun _ _ _ => rfl⟩ (fun r e => by cases e)) W hZ h0
    case hN => simp only [go_sem]
    case hdf => simp
    case hbody =>
      rintro pre ⟨j, hj⟩ M ⟨A', cap', rfl⟩ hl
      have hjl := pieces_lt.1 hj
      have hxs : xs ≠ [] := by intro e; subst e; simp at hjl
      obtain rfl := hA hxs
      have hl' : pre.length < 2001 := Nat.lt_of_lt_of_le hl (by unfold pieces; omega)
      clear hl
      simp only [pieceV, go_sem]
      refine ⟨(xs.drop (1024 * j)).take 1024, ⟨by simp, ?_⟩, fun b3 => ⟨by unfold maxLen; omega, by omega, fun A3 cap3 => ⟨_, ⟨A3, cap3, rfl⟩, fun E w hm => ?_⟩⟩⟩
      · rw [List.map_take, List.map_drop]
        exact rds_shift hb2
      · have e : scells ((pre ++ [(⟨j, hj⟩ : {j : Nat // j < pieces xs.length})]).map fun (j : {j : Nat // j < pieces xs.length}) => (xs.drop (1024 * j.1)).take 1024) = scells (pre.map fun j => (xs.drop (1024 * j.1)).take 1024) ++ [.string (bs ((xs.drop (1024 * j)).take 1024))] := by simp [scells]
        rw [e]
        exact mem_take hm 2 rfl
    case hdone =>
      rintro D ys M W rfl ⟨A', cap', rfl⟩ hm hD hheap
      have hz2D : Z2 D = none := by
        cases hz : Z2 D with
        | none => rfl
        | some ob => have := heap_lt (hr7.mem.frozen _ _ hz); omega
      have hDw : w0.heap.size ≤ D := Nat.le_trans hr7.mem.kept.size hD
      have hact : ({ tmps := a5.tmps, defers := { target := .collected D, args := #[] } :: a5.defers } : Act) = Act.more [{ target := .collected D, args := #[] }] a5 := by simp [Act.more, hr7.defers]
      have hpl : ∀ r ∈ [Res.row A' cap' 9 1 (uptoS xs.length (pieces xs.length)).length (scells ((uptoS xs.length (pieces xs.length)).map fun j => (xs.drop (1024 * j.1)).take 1024)), .blk b [.row 0] 23], r.plain = true := by
        intro r hr
        simp at hr
        rcases hr with rfl | rfl <;> rfl
      have hr8 : Rel ⟨w0, keysOf [], Z⟩ 58 ⟨[(11, .ptr 1 0)], [Res.row A' cap' 9 1 (uptoS xs.length (pieces xs.length)).length (scells ((uptoS xs.length (pieces xs.length)).map fun j => (xs.drop (1024 * j.1)).take 1024)), .blk b [.row 0] 23], Heap.with Z2 D (.deferred (some []))⟩ a5 W := by
        refine ⟨⟨hr7.frame.1, fun i => ?_⟩, hr7.defers, hm.mark hpl hDw hheap rfl⟩
        simp only [Fr.get]
        split
        · rename_i e; subst e
          exact hr7.frame.get 11
        · trivial
      show (Code.seq _ _).wp _ _ _ _
      rw [hact]
      refine wp_seq (wp_region_list (list_more (Q := fun e a w => e = .normal ∧ ∃ s, Rel ⟨w0, keysOf [], Z⟩ 58 s a w ∧ s = ⟨[(3, .val (.int .i64 0)), (2, .row 0), (57, .row 0), (11, .ptr 1 0)], [Res.row A' cap' 9 1 (uptoS xs.length (pieces xs.length)).length (scells ((uptoS xs.length (pieces xs.length)).map fun j => (xs.drop (1024 * j.1)).take 1024)), .blk b [.row 0] 23], Heap.with Z2 D (.deferred (some []))⟩)
        (fun a w h => by cases h.1) ?_ (vcOps_sound (K := fun s => s = ⟨[(3, .val (.int .i64 0)), (2, .row 0), (57, .row 0), (11, .ptr 1 0)], [Res.row A' cap' 9 1 (uptoS xs.length (pieces xs.length)).length (scells ((uptoS xs.length (pieces xs.length)).map fun j => (xs.drop (1024 * j.1)).take 1024)), .blk b [.row 0] 23], Heap.with Z2 D (.deferred (some []))⟩) (by simp only [go_sem]) (by simp only [go_sem]) hr8 (fun s a w h k => ⟨rfl, s, h, k⟩))))
      rintro e a w ⟨rfl, s, hr9, rfl⟩
      refine wp_ret (ret_marked hr9 hz2D hpl hDw ?_)
      simp only [go_sem]
      refine ⟨hprog, fun Z' hz hf => ?_⟩
      have hsp := uptoS_map xs.length (fun j => (xs.drop (1024 * j)).take 1024) (pieces xs.length) (Nat.le_refl _)
      have hln : (uptoS xs.length (pieces xs.length)).length = (splitP xs).length := by rw [splitP, ← hsp, List.length_map]
      unfold texted
      rw [hok]
      refine ⟨A', cap', by rw [hln], ?_, ?_⟩
      · have := hf.1.1
        rw [hsp] at this
        exact this
      · rw [← hln]; exact hf.1.2
  · cases e <;> first | exact hq.elim | exact ret_marks hr hq
end Go.Proofs.YtaecppimppeebaaDoor
