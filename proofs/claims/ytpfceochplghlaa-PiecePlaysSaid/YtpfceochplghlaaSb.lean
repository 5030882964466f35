/- The walk of the reference's Copy. -/
import Derived.Test.YtpfceochplghlaaSa
namespace Go.Proofs.Ytpfceochplghlaa
open Go.RowKit
attribute [local go_sem ↓] Go.wp_at_zero Go.wp_at_succ

set_option maxHeartbeats 2000000 in
theorem rcopy_any (W : World) (r : Nat) (G : List Nat) (T : Tb) (h : RefIn W r G T) : Calls Try.prog 48 #[.pointer (some ⟨r, 0, none⟩)] W fun e w' => ∃ u G', e = .returned (.pointer (some ⟨u, 0, none⟩)) ∧ RefIn w' u G' T ∧ (∀ g ∈ G', W.heap.size ≤ g) ∧ Below W.heap.size W w' := by
  obtain ⟨i0, hi0, hz0, hz1, hz2⟩ := info_parts info21
  obtain ⟨i1, hi1, hy0, hy1, hy2⟩ := info_parts info53
  have HOK := Lib.hid h.ok
  obtain ⟨A0, n0, c0, A1, n1, c1, A2, n2, c2, hat, hFF, _⟩ := h
  have HAT := Lib.hid hat
  have hln := hat.lens
  have hm0 : n0 ≤ 1000 := by have := HOK.out.fst; omega
  have hm1 : n1 ≤ 20000 := by have := HOK.out.add; omega
  have hm2 : n2 ≤ 1000 := by have := count_le HOK.out.pos; have := HOK.out.len; omega
  have htl := hat.lt r (by simp)
  have HS : Hid (∀ w, Below W.heap.size W w → w.cell? ⟨r, 0, none⟩ = some (.slice A0 n0 c0) ∧ w.cell? ⟨r, 1, none⟩ = some (.slice A1 n1 c1) ∧ w.cell? ⟨r, 2, none⟩ = some (.slice A2 n2 c2)) := fun w hb => by
    obtain ⟨z0, z1, z2⟩ := hat.cells
    exact ⟨(hb.cell (p := ⟨r, 0, none⟩) htl).trans z0, (hb.cell (p := ⟨r, 1, none⟩) htl).trans z1, (hb.cell (p := ⟨r, 2, none⟩) htl).trans z2⟩
  have hS0 := HS.out W (Below.refl _ _)
  have e0 : 0 + n0 ≤ maxLen := by simp only [maxLen]; omega
  have e1 : 0 + n1 ≤ maxLen := by simp only [maxLen]; omega
  have e2 : 0 + n2 ≤ maxLen := by simp only [maxLen]; omega
  have b0 : (0 + n0) * 4 ≤ 140737488355328 := by omega
  have b1 : (0 + n1) * 4 ≤ 140737488355328 := by omega
  have b2 : (0 + n2) * 24 ≤ 140737488355328 := by omega
  have HR0 : Hid (Rds W.drew W.heap.size 1 A0 n0 (T.fst.map (Value.int .i32))) := Rds.of_own HAT.out.r0
  clear hat hln hFF
  go_enter Try.func48, Try.ntmps48
  go_upto_region 1 with fail
  go_region_held3 (fun w' => w'.cell? ⟨r, 0, none⟩ = some (.slice A0 n0 c0) ∧ w'.cell? ⟨r, 1, none⟩ = some (.slice A1 n1 c1) ∧ w'.cell? ⟨r, 2, none⟩ = some (.slice A2 n2 c2)) (first | exact hS3 | exact hS2 | exact hS1 | exact hS0 | exact HS.out _ (HB3.out.alloc HB3.out.size _))
    (first
      | (refine step_append_rds (by rfl) (.const (.slice none 0 0)) (.tmp 6) 23 (by rfl) W.heap.size 21 i0 _ 1 4 Try.underlying23 hi0 hz0 hz1 hz2 rfl (by decide) (.slice none 0 0) 0 [] (by rfl) (World.ownsRow_nil _ _ _ _) W.heap.size A0 n0 c0 _ (by rfl) HR0.out (oneCell_ints _) e0 b0 (by exact Nat.le_refl _) ?_; intro v1 w1 hown1 hg1 hat1; have HB1 : Hid (Below W.heap.size W w1) := (Below.drew (Below.refl _ _)).grown hg1 (Nat.le_refl _) (by simp [Value.ownBlock]); have hS1 := HS.out w1 HB1.out; rw [Nat.zero_add, List.nil_append] at hown1; clear hg1 hat1; obtain ⟨A4, c4, rfl, _, _⟩ := own_form hown1; have HO1 := Lib.hid hown1; clear hown1)
      | (refine step_append_rds (by rfl) (.const (.slice none 0 0)) (.tmp 11) 23 (by rfl) w1.heap.size 21 i0 _ 1 4 Try.underlying23 hi0 hz0 hz1 hz2 rfl (by decide) (.slice none 0 0) 0 [] (by rfl) (World.ownsRow_nil _ _ _ _) W.heap.size A1 n1 c1 _ (by rfl) ((Rds.of_own HAT.out.r1).below HB1.out) (oneCell_ints _) e1 b1 (by exact Nat.le_refl _) ?_; intro v2 w2 hown2 hg2 hat2; have HB12 : Hid (Below w1.heap.size w1 w2) := (Below.refl _ _).grown hg2 (Nat.le_refl _) (by simp [Value.ownBlock]); have HB2 : Hid (Below W.heap.size W w2) := bmore HB1.out (Nat.le_refl _) HB12.out; have hS2 := HS.out w2 HB2.out; rw [Nat.zero_add, List.nil_append] at hown2; clear hg2 hat2; obtain ⟨A5, c5, rfl, _, _⟩ := own_form hown2; have HO2 := Lib.hid hown2; clear hown2)
      | (refine step_append_rds (by rfl) (.const (.slice none 0 0)) (.tmp 16) 50 (by rfl) w2.heap.size 53 i1 _ 3 24 Try.underlying50 hi1 hy0 hy1 hy2 rfl (by decide) (.slice none 0 0) 0 [] (by rfl) (World.ownsRow_nil _ _ _ _) W.heap.size A2 n2 c2 _ (by rfl) ((Rds.of_own HAT.out.r2).below HB2.out) (pcs_one _) e2 b2 (by exact Nat.le_refl _) ?_; intro v3 w3 hown3 hg3 hat3; have HB23 : Hid (Below w2.heap.size w2 w3) := (Below.refl _ _).grown hg3 (Nat.le_refl _) (by simp [Value.ownBlock]); have HB3 : Hid (Below W.heap.size W w3) := bmore HB2.out (Nat.le_refl _) HB23.out; have hS3 := HS.out w3 HB3.out; rw [Nat.zero_add, List.nil_append] at hown3; clear hg3 hat3; obtain ⟨A6, c6, rfl, _, _⟩ := own_form hown3; have HO3 := Lib.hid hown3; clear hown3))
  all_goals
    go_wp2
    go_ret
    have hal : Below w3.heap.size w3 (w3.alloc (.cells #[.slice A4 n0 c4, .slice A5 n1 c5, .slice A6 n2 c6] 66 (0, 0))) := (Below.refl _ _).alloc (Nat.le_refl _) _
    have hs12 := HB12.out.size
    have hs23 := HB23.out.size
    have hr4 : w3.ownsRow W.heap.size 21 1 (.slice A4 n0 c4) n0 (T.fst.map (Value.int .i32)) := own_below (own_below HO1.out HB12.out fun k hk => (HO1.out.lt k hk).2) HB23.out fun k hk => Nat.lt_of_lt_of_le (HO1.out.lt k hk).2 hs12
    have hr5 : w3.ownsRow w1.heap.size 21 1 (.slice A5 n1 c5) n1 (T.add.map (Value.int .i32)) := own_below HO2.out HB23.out fun k hk => (HO2.out.lt k hk).2
    have hg4 : ∀ g ∈ blk A4, W.heap.size ≤ g ∧ g < w3.heap.size := fun g hg => ⟨blk_ge HO1.out (Nat.le_refl _) g hg, blk_lt hr4 g hg⟩
    have hg5 : ∀ g ∈ blk A5, w1.heap.size ≤ g ∧ g < w3.heap.size := fun g hg => ⟨blk_ge HO2.out (Nat.le_refl _) g hg, blk_lt hr5 g hg⟩
    have hg6 : ∀ g ∈ blk A6, w2.heap.size ≤ g ∧ g < w3.heap.size := fun g hg => ⟨blk_ge HO3.out (Nat.le_refl _) g hg, blk_lt HO3.out g hg⟩
    have hsz1 := HB1.out.size
    refine ⟨w3.heap.size, w3.heap.size :: (blk A4 ++ blk A5 ++ blk A6), rfl, ⟨A4, n0, c4, A5, n1, c5, A6, n2, c6, ⟨heap_alloc_new _ _, own_lower (own_below hr4 hal fun k hk => (hr4.lt k hk).2) (Nat.zero_le _), own_lower (own_below hr5 hal fun k hk => (hr5.lt k hk).2) (Nat.zero_le _), own_lower (own_below HO3.out hal fun k hk => (HO3.out.lt k hk).2) (Nat.zero_le _), fun hm => ?_⟩, rfl, HOK.out⟩, fun g hg => ?_, HB3.out.alloc HB3.out.size _⟩
    · simp only [List.mem_append] at hm
      rcases hm with (h | h) | h
      · have := (hg4 _ h).2; omega
      · have := (hg5 _ h).2; omega
      · have := (hg6 _ h).2; omega
    · simp only [List.mem_cons, List.mem_append] at hg
      rcases hg with h | (h | h) | h
      · omega
      · exact (hg4 g h).1
      · have := (hg5 g h).1; omega
      · have := (hg6 g h).1; omega
end Go.Proofs.Ytpfceochplghlaa
