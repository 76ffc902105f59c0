/- waste.Choose: what the code computes. -/
import Derived.Test.YteanjjdgmjdfiaaWa6
namespace Go.Proofs.Yteanjjdgmjdfiaa
open Go Go.SX

set_option maxRecDepth 10000 in
theorem sortStable_any (Z : Heap) (A : Option Addr) (cap : Nat) (l : List Int) {G : FuncId} {caps : List Value} {c : Int → Int → Int} {dom : Int → Prop} (hc : Cmp Z G caps c dom) (hd : ∀ x ∈ l, dom x) (hl : l.length ≤ 100) :
    FnW Try.prog 13 [.row 0, .val (cmpV G caps)] Z A cap 3 1 l.length (icells l) (fun xs => xs = icells (sortP c l)) := by
  refine fnW_intro Try.func13 rfl (Nat.le_of_ble_eq_true rfl) ?_
  simp only [go_sem]
  refine vcCall_W 0 [.row 0, .val (.int .i64 l.length), .val (cmpV G caps)] _ rfl rfl rfl (fun Z' hz _ => stable_any Z' A cap l (hc.grow hz) hd hl) ?_
  rintro X rfl
  simp only [go_sem]
  exact ⟨_, [], rfl, rfl⟩

/-- the share of waste number x -/
def shareAt (l : List (Int × Int)) (x : Int) : Nat := shareW (l.getD x.toNat (0, 0))
def chooseC (l : List (Int × Int)) (x y : Int) : Int := cmpF (shareAt l y) (shareAt l x)
def domOf (l : List (Int × Int)) (x : Int) : Prop := 0 ≤ x ∧ x.toNat < l.length

set_option maxRecDepth 10000 in
theorem chooseCmp_any (Z : Heap) (q : Addr) (A : Option Addr) (l : List (Int × Int)) (cp : Nat) (hq : Rds Z (some q) 0 [.slice A l.length cp]) (h : Rds Z A 0 (wcells l)) (hok : l.all wOk = true) (hl : l.length ≤ 100) :
    Cmp Z 14 [.pointer (some q)] (chooseC l) (domOf l) where
  ext := Try.ext14
  can := of_eq_true Try.can14
  run := by
    rintro x y ⟨hx0, hx⟩ ⟨hy0, hy⟩
    obtain ⟨x, rfl⟩ := Int.eq_ofNat_of_zero_le hx0
    obtain ⟨y, rfl⟩ := Int.eq_ofNat_of_zero_le hy0
    simp only [Int.toNat_natCast] at hx hy
    have okx : wOk l[x] = true := List.all_eq_true.1 hok _ (List.getElem_mem hx)
    have oky : wOk l[y] = true := List.all_eq_true.1 hok _ (List.getElem_mem hy)
    obtain ⟨ha, hrx⟩ := Rds.w h hx
    obtain ⟨_, hry⟩ := Rds.w h hy
    have ex : shareAt l (x : Int) = shareW l[x] := by simp [shareAt, hx]
    have ey : shareAt l (y : Int) = shareW l[y] := by simp [shareAt, hy]
    refine fnV_intro Try.func14 rfl (Nat.le_of_ble_eq_true rfl) ?_
    simp only [go_sem]
    refine ⟨by kernel_rfl, A, l.length, cp, hq, ⟨ha, by omega, by omega⟩, l[y].1, l[y].2, hry, ?_⟩
    refine vcCallX_E _ rfl (share_any _ l[y] oky) ?_
    simp only [go_sem]
    refine ⟨A, l.length, cp, hq, ⟨ha, by omega, by omega⟩, l[x].1, l[x].2, hrx, ?_⟩
    refine vcCallX_E _ rfl (share_any _ l[x] okx) ?_
    simp only [go_sem]
    refine vcCallX_E _ rfl (compare_any _ _ _) ?_
    simp only [go_sem, chooseC, ex, ey]
end Go.Proofs.Yteanjjdgmjdfiaa
