/- The walk of same. -/
import Derived.Test.YtpfceochplghlaaRg
import Derived.Test.YtpfceochplghlaaRb
import Derived.Test.YtpfceochplghlaaRe
import Derived.Test.YtpfceochplghlaaZc
namespace Go.Proofs.Ytpfceochplghlaa
open Go.RowKit
attribute [local go_sem ↓] Go.wp_at_zero Go.wp_at_succ

theorem cell_some {w : World} {g : Nat} {cur : List Value} {e : TypeId} (h : w.heap[g]? = some (.cells cur.toArray e (0, 0))) {j : Nat} (hj : j < cur.length) : ∃ v, w.cell? ⟨g, j, none⟩ = some v := by
  rw [row_cell h j, List.getElem?_eq_getElem hj]
  exact ⟨_, rfl⟩

set_option maxRecDepth 100000 in
set_option maxHeartbeats 4000000 in
theorem same_both (W : World) (t : Nat) (F : List Nat) (T : Tb) (r : Nat) (G : List Nat) (h : TabIn W t F T) (hr : RefIn W r G T) :
    Calls Try.prog 22 #[.pointer (some ⟨t, 0, none⟩), .pointer (some ⟨r, 0, none⟩)] W fun e w' => e = .returned (.bool true) ∧ Below W.heap.size W w' := by
  have HT := Lib.hid h
  have HRF := Lib.hid hr
  have hok := h.ok
  have hl1000 := hok.len
  have hpsn := count_le hok.pos
  obtain ⟨A0, n0, c0, A1, n1, c1, A2, n2, c2, hat, hGG, _⟩ := hr
  have HAT := Lib.hid hat
  have hrl := hat.lt r (by simp)
  have HS : Hid (∀ w, Below W.heap.size W w → w.cell? ⟨r, 1, none⟩ = some (.slice A1 n1 c1) ∧ w.cell? ⟨r, 2, none⟩ = some (.slice A2 n2 c2)) := fun w hb => ⟨(hb.cell (p := ⟨r, 1, none⟩) hrl).trans hat.cells.2.1, (hb.cell (p := ⟨r, 2, none⟩) hrl).trans hat.cells.2.2⟩
  obtain ⟨l, hll⟩ : ∃ l, plen T.ps = l := ⟨_, rfl⟩
  have HLL := Lib.hid hll
  rw [hll] at hl1000 hpsn
  have HVL : Hid ((plen T.ps : Int) = l) := by show _ = _; rw [hll]
  have HVA : Hid ((T.add.length : Int) = n1) := by show _ = _; rw [hat.lens.2.1]
  have hN2 : T.ps.length ≤ 1000 := by omega
  obtain ⟨np, hnp⟩ : ∃ np, T.ps.length = np := ⟨_, rfl⟩
  have HNP := Lib.hid hnp
  rw [hnp] at hN2 hpsn
  clear h hok hat hGG hll hnp
  go_enter Try.func22, Try.ntmps22
  go_upto_region 2 with (first
    | (go_at_call 26; (with_reducible refine (text_any W t F T HT.out).mono ?_); rintro e w1 ⟨v1, rfl, hown1, hb1⟩; rw [HLL.out] at hown1; obtain ⟨A5, c5, rfl, _, _⟩ := own_form hown1; have HO1 := Lib.hid hown1; have HB1 := Lib.hid hb1; clear hown1 hb1)
    | (go_at_call 27; (with_reducible refine (pieces_any w1 t F T (HT.out.below HB1.out)).mono ?_); rintro e w2 ⟨v2, rfl, hown2, hb2⟩; rw [HNP.out] at hown2; obtain ⟨A6, c6, rfl, _, _⟩ := own_form hown2; have HO2 := Lib.hid hown2; have HB2 : Hid (Below W.heap.size W w2) := bmore HB1.out (Nat.le_refl _) hb2; have HB12 := Lib.hid hb2; clear hown2 hb2))
  have hS2 := HS.out w2 HB2.out
  go_region_held3 (fun w' => w'.cell? ⟨r, 1, none⟩ = some (.slice A1 n1 c1) ∧ w'.cell? ⟨r, 2, none⟩ = some (.slice A2 n2 c2)) (first | exact hS5 | exact hS4 | exact hS3 | exact hS2)
    (first
      | (go_at_call 20; (with_reducible refine (rtext_any w2.drew r G T (HRF.out.chg (Chg.of_below (F := []) HB2.out.drew) (by simp))).mono ?_); rintro e w3 ⟨v3, rfl, hown3, hb3⟩; rw [HLL.out] at hown3; obtain ⟨A7, c7, rfl, _, _⟩ := own_form hown3; have HO3 := Lib.hid hown3; have HB3 : Hid (Below W.heap.size W w3) := bmore HB2.out.drew (Nat.le_refl _) hb3; have HB23 : Hid (Below w2.heap.size w2 w3) := bmore (Below.drew (Below.refl _ _)) (Nat.le_refl _) hb3; have hS3 := HS.out w3 HB3.out; clear hown3 hb3)
      | (go_at_call 25; (with_reducible refine (same_self A5 A7 l c5 l c7 T.text w3.heap.size w3 (((Rds.of_own HO1.out).below (HB12.out.trans (HB23.out.mono HB12.out.size))).more (Nat.le_trans HB12.out.size HB23.out.size)) (Rds.of_own HO3.out) (by omega)).mono ?_); rintro e w4 ⟨rfl, hb4⟩; have HB4 : Hid (Below W.heap.size W w4) := bmore HB3.out (Nat.le_refl _) hb4; have HB34 := Lib.hid hb4; have hS4 := HS.out w4 HB4.out; clear hb4)
      | (go_at_call 44; (with_reducible refine (samep_any w4 _ _ A6 A2 np c6 n2 c2 T.ps (own_below (own_below HO2.out HB23.out (fun k hk => (HO2.out.lt k hk).2)) HB34.out (fun k hk => Nat.lt_of_lt_of_le (HO2.out.lt k hk).2 HB23.out.size)) (own_below HAT.out.r2 HB4.out (fun k hk => (HAT.out.r2.lt k hk).2)) hN2).mono ?_); rintro e w5 ⟨rfl, q5, hq5⟩; have HB5 : Hid (Below W.heap.size W w5) := (by rw [hq5]; exact below_drewN HB4.out q5); have HB45 : Hid (Below w4.heap.size w4 w5) := (by rw [hq5]; exact below_drewN (Below.refl _ _) q5); have hS5 := HS.out w5 HB5.out; clear hq5)
      | (go_at_call 14; (with_reducible refine (added_any w5 t F T n1 HVA (HT.out.chg (Chg.of_below (F := []) HB5.out) (by simp))).mono ?_); rintro e w6 ⟨rfl, rfl⟩)
      | (go_at_call 13; (with_reducible refine (len_any w5 t F T l HVL (HT.out.chg (Chg.of_below (F := []) HB5.out) (by simp))).mono ?_); rintro e w6 ⟨rfl, rfl⟩)
      | (go_at_call 41; (with_reducible refine (rlen_v w5 r G T l HLL (HRF.out.chg (Chg.of_below (F := []) HB5.out) (by simp))).mono ?_); rintro e w6 ⟨rfl, rfl⟩))
  all_goals
    have HO15 : Hid (w5.ownsRow W.heap.size 21 1 (.slice A5 l c5) l (T.text.map (Value.int .i32))) := own_below (own_below (own_below (own_below HO1.out HB12.out fun k hk => (HO1.out.lt k hk).2) HB23.out fun k hk => Nat.lt_of_lt_of_le (HO1.out.lt k hk).2 HB12.out.size) HB34.out fun k hk => Nat.lt_of_lt_of_le (HO1.out.lt k hk).2 (Nat.le_trans HB12.out.size HB23.out.size)) HB45.out fun k hk => Nat.lt_of_lt_of_le (HO1.out.lt k hk).2 (Nat.le_trans HB12.out.size (Nat.le_trans HB23.out.size HB34.out.size))
    have HO25 : Hid (w5.ownsRow w1.heap.size 53 3 (.slice A6 np c6) np (pcs T.ps)) := own_below (own_below (own_below HO2.out HB23.out fun k hk => (HO2.out.lt k hk).2) HB34.out fun k hk => Nat.lt_of_lt_of_le (HO2.out.lt k hk).2 HB23.out.size) HB45.out fun k hk => Nat.lt_of_lt_of_le (HO2.out.lt k hk).2 (Nat.le_trans HB23.out.size HB34.out.size)
    have HAP : Hid (∀ g ∈ blk A6, g ∉ blk A5) := fun g hg hm => by have := blk_ge HO2.out (Nat.le_refl _) g hg; have := blk_lt HO1.out g hm; omega
    have HGE : Hid (∀ g ∈ blk A6, W.heap.size ≤ g) := fun g hg => Nat.le_trans HB1.out.size (blk_ge HO2.out (Nat.le_refl _) g hg)
    clear HO1 HO2 HO3 HB1 HB2 HB3 HB4 HB12 HB23 HB34 HB45 hS2 hS3 hS4 hS5 HVL HVA HNP HLL
    go_wp2_with (go_at_call 30; (with_reducible refine (spoil_any w5 W.heap.size A5 l l c5 T.text HO15.out (Nat.le_refl _) (by omega)).mono ?_); rintro e w7 ⟨rfl, hc7⟩; have HC7 := Lib.hid hc7; clear hc7)
    have HB7 : Hid (Below W.heap.size W w7) := HB5.out.trans (HC7.out.below (fun g hg => blk_ge HO15.out (Nat.le_refl _) g hg) HB5.out.size)
    have HO7 : Hid (w7.ownsRow w1.heap.size 53 3 (.slice A6 np c6) np (pcs T.ps)) := own_keep HO25.out HC7.out HAP.out
    clear HC7 HO15 HO25 HB5
    go_loopw [46] (fun x wr => ∃ (k : Nat) (w0 : World), w0 = wr ∧ k ≤ np ∧ x = .int .i64 k ∧ Hid (0 < np → ∃ (g : Nat) (cur : List Value), A6 = some ⟨g, 0, none⟩ ∧ wr.heap[g]? = some (.cells cur.toArray 53 (0, 0)) ∧ np * 3 ≤ cur.length) ∧ Hid (Below W.heap.size W wr)) (fun x _ => np - (intOf x).toNat)
    case atStart =>
      refine ⟨0, _, rfl, Nat.zero_le _, rfl, fun hn => ?_, HB7.out⟩
      rcases own_row HO7.out with ⟨_, h0, _⟩ | ⟨g, cur, e, hb, hg, hl, hnc, hm, ht⟩
      · omega
      · exact ⟨g, cur, e, hg, by omega⟩
    case round =>
      obtain ⟨k, wr, rfl, hk, rfl, HH, HBr⟩ := hrel
      by_cases hlt : k < np
      · obtain ⟨g, cur, rfl, hg, hcl⟩ := HH.out (by omega)
        have HG := Lib.hid hg
        obtain ⟨u0, y0⟩ := cell_some hg (j := k * 3) (by omega)
        obtain ⟨u1, y1⟩ := cell_some hg (j := k * 3 + 1) (by omega)
        obtain ⟨u2, y2⟩ := cell_some hg (j := k * 3 + 2) (by omega)
        have f0 := frozen_of_row wr g (k * 3) _ _ hg
        have f1 := frozen_of_row wr g (k * 3 + 1) _ _ hg
        have f2 := frozen_of_row wr g (k * 3 + 2) _ _ hg
        have hglt : g < wr.heap.size := (Array.getElem?_eq_some_iff.1 hg).1
        have hJ1 : (0 : Int) ≤ (k : Int) ∧ (k : Int) < (np : Int) := by omega
        obtain ⟨hJ1a, hJ1b⟩ := hJ1
        have HGB : Hid (W.heap.size ≤ g) := HGE.out g (by simp [blk])
        clear hg
        go_wp2
        go_roundw
        case rel =>
          refine ⟨k + 1, _, rfl, by omega, by go_num, fun _ => ?_, ((HBr.out.setCell HGB.out _).setCell HGB.out _).setCell HGB.out _⟩
          have hk3 := heap_setCell_same wr g (k * 3) cur.toArray 53 (.bool false) HG.out
          have hk4 := heap_setCell_same _ g (k * 3 + 1) _ 53 (.int .i64 (-9)) hk3
          have hk5 := heap_setCell_same _ g (k * 3 + 2) _ 53 (.int .i64 0) hk4
          exact ⟨g, ((cur.set (k * 3) (.bool false)).set (k * 3 + 1) (.int .i64 (-9))).set (k * 3 + 2) (.int .i64 0), rfl, by simpa using hk5, by simpa using hcl⟩
        case measure => simp [intOf]; omega
      · go_wp2
        go_ret
        exact ⟨rfl, HBr.out⟩
end Go.Proofs.Ytpfceochplghlaa
