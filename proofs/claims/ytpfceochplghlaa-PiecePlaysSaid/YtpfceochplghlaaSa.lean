/- The walks of Slice, Copy, and of the reference's Copy. -/
import Derived.Test.YtpfceochplghlaaRi
namespace Go.Proofs.Ytpfceochplghlaa
open Go.RowKit
attribute [local go_sem ↓] Go.wp_at_zero Go.wp_at_succ

theorem slc_no (W : World) (t : Nat) (F : List Nat) (T : Tb) (a k : Int) (h : TabIn W t F T) (h0 : Hid (thereB (plen T.ps) a k = false)) : Calls Try.prog 47 #[.pointer (some ⟨t, 0, none⟩), .int .i64 a, .int .i64 k] W fun e w' => e = .returned (.tuple #[.slice none 0 0, .int .i64 2]) ∧ W = w' := by
  have H := Lib.hid h
  clear h
  go_enter Try.func47, Try.ntmps47
  go_wp2_with (go_at_call 34; (with_reducible refine (there_any W t F T a k false h0 H.out).mono ?_); rintro e w' ⟨rfl, rfl⟩)
  go_ret2
  exact ⟨rfl, rfl⟩
set_option maxHeartbeats 1000000 in
theorem slc_ok (W : World) (t : Nat) (F : List Nat) (T : Tb) (a k : Nat) (h : TabIn W t F T) (h0 : Hid (thereB (plen T.ps) a k = true)) : Calls Try.prog 47 #[.pointer (some ⟨t, 0, none⟩), .int .i64 a, .int .i64 k] W fun e w' => (∃ A c, e = .returned (.tuple #[.slice A k c, .int .i64 0]) ∧ w'.ownsRow W.heap.size 21 1 (.slice A k c) k (((T.text.drop a).take k).map (Value.int .i32))) ∧ Below W.heap.size W w' := by
  have H := Lib.hid h
  have hl := h.ok.len
  have ht := h0.out
  simp only [thereB, decide_eq_true_eq] at ht
  have hak : a + k ≤ plen T.ps := by omega
  have hwk : IntKind.i64.wrap ((a : Int) + (k : Int)) = (a : Int) + (k : Int) := IntWalk.i64_in _ (by omega)
  have hk1 : k ≤ 1000000 := by omega
  have HAK := Lib.hid hak
  clear h ht hak
  go_enter Try.func47, Try.ntmps47
  go_wp2_with (first
    | (go_at_call 34; (with_reducible refine (there_any W t F T a k true h0 H.out).mono ?_); rintro e w' ⟨rfl, rfl⟩)
    | (go_at_call 26; (with_reducible refine (text_any W t F T H.out).mono ?_); rintro e w1 ⟨v1, rfl, hown1, hb1⟩; obtain ⟨A1, c1, rfl, hc1, _⟩ := own_form hown1; obtain ⟨A2, hs2, hr2⟩ := view_rds (Rds.of_own hown1) hc1 HAK.out; have HR2 := Lib.hid hr2; have HB1 := Lib.hid hb1; clear hown1 hb1 hr2)
    | (go_at_call 33; (with_reducible refine (clone_r A2 k _ _ w1 HR2.out hk1).mono ?_); rintro e w2 ⟨v2, rfl, hown2, hb2⟩; obtain ⟨A3, c3, rfl, _, _⟩ := own_form hown2; have HO2 := Lib.hid hown2; have HB2 := Lib.hid hb2; clear hown2 hb2))
  go_ret2
  exact ⟨⟨A3, c3, rfl, own_lower HO2.out HB1.out.size⟩, bmore HB1.out (Nat.le_refl _) HB2.out⟩

set_option maxHeartbeats 2000000 in
theorem copy_any (W : World) (t : Nat) (F : List Nat) (T : Tb) (h : TabIn W t F T) : Calls Try.prog 38 #[.pointer (some ⟨t, 0, none⟩)] W fun e w' => ∃ u F', e = .returned (.pointer (some ⟨u, 0, none⟩)) ∧ TabIn w' u F' T ∧ (∀ g ∈ F', W.heap.size ≤ g) ∧ Below W.heap.size W w' := by
  have HOK := Lib.hid h.ok
  obtain ⟨A0, n0, c0, A1, n1, c1, A2, n2, c2, hat, hFF, _⟩ := h
  have HAT := Lib.hid hat
  have hln := hat.lens
  have hm0 : n0 ≤ 1000000 := by have := HOK.out.fst; omega
  have hm1 : n1 ≤ 1000000 := by have := HOK.out.add; omega
  have hm2 : n2 ≤ 1000000 := by have := count_le HOK.out.pos; have := HOK.out.len; omega
  have htl := hat.lt t (by simp)
  obtain ⟨l, hll⟩ : ∃ l, plen T.ps = l := ⟨_, rfl⟩
  have HLL := Lib.hid hll
  have HS : Hid (∀ w, Below W.heap.size W w → w.cell? ⟨t, 0, none⟩ = some (.slice A0 n0 c0) ∧ w.cell? ⟨t, 1, none⟩ = some (.slice A1 n1 c1) ∧ w.cell? ⟨t, 2, none⟩ = some (.slice A2 n2 c2) ∧ w.cell? ⟨t, 3, none⟩ = some (.int .i64 l)) := fun w hb => by
    obtain ⟨z0, z1, z2, z3⟩ := hat.cells
    rw [hll] at z3
    exact ⟨(hb.cell (p := ⟨t, 0, none⟩) htl).trans z0, (hb.cell (p := ⟨t, 1, none⟩) htl).trans z1, (hb.cell (p := ⟨t, 2, none⟩) htl).trans z2, (hb.cell (p := ⟨t, 3, none⟩) htl).trans z3⟩
  have hS0 := HS.out W (Below.refl _ _)
  clear hat hln hFF hll
  go_enter Try.func38, Try.ntmps38
  have HR0 : Hid (Rds W.drew W.drew.heap.size 1 A0 n0 (T.fst.map (Value.int .i32))) := Rds.of_own HAT.out.r0
  go_upto_region 3 with fail
  go_region_held3 (fun w' => w'.cell? ⟨t, 0, none⟩ = some (.slice A0 n0 c0) ∧ w'.cell? ⟨t, 1, none⟩ = some (.slice A1 n1 c1) ∧ w'.cell? ⟨t, 2, none⟩ = some (.slice A2 n2 c2) ∧ w'.cell? ⟨t, 3, none⟩ = some (.int .i64 l)) (first | exact hS3 | exact hS2 | exact hS1 | exact hS0 | exact HS.out _ (HB3.out.alloc HB3.out.size _))
    (first
      | (go_at_call 33; (with_reducible refine (clone_r A0 n0 c0 T.fst W.drew HR0.out hm0).mono ?_); rintro e w1 ⟨v1, rfl, hown1, hb1⟩; obtain ⟨A4, c4, rfl, _, _⟩ := own_form hown1; have HO1 := Lib.hid hown1; have HB1 : Hid (Below W.heap.size W w1) := bmore (Below.drew (Below.refl _ _)) (Nat.le_refl _) hb1; have hS1 := HS.out w1 HB1.out; clear hown1 hb1)
      | (go_at_call 33; (with_reducible refine (clone_r A1 n1 c1 T.add w1 (((Rds.of_own HAT.out.r1).below HB1.out).more HB1.out.size) hm1).mono ?_); rintro e w2 ⟨v2, rfl, hown2, hb2⟩; obtain ⟨A5, c5, rfl, _, _⟩ := own_form hown2; have HO2 := Lib.hid hown2; have HB2 : Hid (Below W.heap.size W w2) := bmore HB1.out (Nat.le_refl _) hb2; have HB12 := Lib.hid hb2; have hS2 := HS.out w2 HB2.out; clear hown2 hb2)
      | (go_at_call 46; (with_reducible refine (clone_p A2 n2 c2 T.ps w2 (((Rds.of_own HAT.out.r2).below HB2.out).more HB2.out.size) hm2).mono ?_); rintro e w3 ⟨v3, rfl, hown3, hb3⟩; obtain ⟨A6, c6, rfl, _, _⟩ := own_form hown3; have HO3 := Lib.hid hown3; have HB3 : Hid (Below W.heap.size W w3) := bmore HB2.out (Nat.le_refl _) hb3; have HB23 := Lib.hid hb3; have hS3 := HS.out w3 HB3.out; clear hown3 hb3))
  all_goals
    go_wp2
    go_ret
    have hal : Below w3.heap.size w3 (w3.alloc (.cells #[.slice A4 n0 c4, .slice A5 n1 c5, .slice A6 n2 c6, .int .i64 l] 59 (0, 0))) := (Below.refl _ _).alloc (Nat.le_refl _) _
    have hs12 := HB12.out.size
    have hs23 := HB23.out.size
    have hr4 : w3.ownsRow W.heap.size 21 1 (.slice A4 n0 c4) n0 (T.fst.map (Value.int .i32)) := own_below (own_below HO1.out HB12.out fun k hk => (HO1.out.lt k hk).2) HB23.out fun k hk => Nat.lt_of_lt_of_le (HO1.out.lt k hk).2 hs12
    have hr5 : w3.ownsRow w1.heap.size 21 1 (.slice A5 n1 c5) n1 (T.add.map (Value.int .i32)) := own_below HO2.out HB23.out fun k hk => (HO2.out.lt k hk).2
    have hg4 : ∀ g ∈ blk A4, W.heap.size ≤ g ∧ g < w1.heap.size := fun g hg => ⟨blk_ge HO1.out (Nat.le_refl _) g hg, blk_lt HO1.out g hg⟩
    have hg5 : ∀ g ∈ blk A5, w1.heap.size ≤ g ∧ g < w2.heap.size := fun g hg => ⟨blk_ge HO2.out (Nat.le_refl _) g hg, blk_lt HO2.out g hg⟩
    have hg6 : ∀ g ∈ blk A6, w2.heap.size ≤ g ∧ g < w3.heap.size := fun g hg => ⟨blk_ge HO3.out (Nat.le_refl _) g hg, blk_lt HO3.out g hg⟩
    have hsz1 := HB1.out.size
    refine ⟨w3.heap.size, w3.heap.size :: (blk A4 ++ blk A5 ++ blk A6), rfl, ⟨A4, n0, c4, A5, n1, c5, A6, n2, c6, ⟨by rw [HLL.out]; exact heap_alloc_new _ _, own_lower (own_below hr4 hal fun k hk => (hr4.lt k hk).2) (Nat.zero_le _), own_lower (own_below hr5 hal fun k hk => (hr5.lt k hk).2) (Nat.zero_le _), own_lower (own_below HO3.out hal fun k hk => (HO3.out.lt k hk).2) (Nat.zero_le _), ?_⟩, rfl, HOK.out⟩, fun g hg => ?_, HB3.out.alloc HB3.out.size _⟩
    · cases A4 <;> cases A5 <;> cases A6 <;> simp [blk] at hg4 hg5 hg6 ⊢ <;> omega
    · simp only [List.mem_cons, List.mem_append] at hg
      rcases hg with h | (h | h) | h
      · omega
      · exact (hg4 g h).1
      · have := (hg5 g h).1; omega
      · have := (hg6 g h).1; omega
end Go.Proofs.Ytpfceochplghlaa
