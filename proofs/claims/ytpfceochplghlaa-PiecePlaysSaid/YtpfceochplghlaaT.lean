/- The walk of known. -/
import Derived.Test.YtpfceochplghlaaS
namespace Go.Proofs.Ytpfceochplghlaa
open Go.RowKit
attribute [local go_sem ↓] Go.wp_at_zero Go.wp_at_succ

theorem rds_lit {w : World} {q : Nat} {cur : List Value} (h : w.heap[q]? = some (.cells cur.toArray 21 (0, 0))) (hl : cur.length ≤ 20000) : Rds w w.heap.size 1 (some ⟨q, 0, none⟩) cur.length cur :=
  Rds.of_own (base := 0) (e := 21) (c := cur.length) (own_mk (Nat.zero_le _) h (by omega) (Nat.le_refl _) (by simp only [maxLen]; omega) (by simp))
theorem knownT : splT (newTb [97, 98]) 1 0 [120] = ⟨[97, 98], [120], [⟨false, 0, 1⟩, ⟨true, 0, 1⟩, ⟨false, 1, 1⟩]⟩ := by
  rfl
theorem new_two (W : World) (q : Nat) (hq : W.heap[q]? = some (.cells #[.int .i32 97, .int .i32 98] 21 (0, 0))) : Calls Try.prog 10 #[.slice (some ⟨q, 0, none⟩) 2 2] W (NewPost W (newTb [97, 98])) :=
  new_ok W (some ⟨q, 0, none⟩) 2 2 [97, 98] (Lib.hid (by decide)) (by omega) (rds_lit (cur := [.int .i32 97, .int .i32 98]) hq (by simp))
theorem new_bad (W : World) (q : Nat) (hq : W.heap[q]? = some (.cells #[.int .i32 (-1)] 21 (0, 0))) : Calls Try.prog 10 #[.slice (some ⟨q, 0, none⟩) 1 1] W fun e w' => e = .returned (.tuple #[.pointer none, .int .i64 1]) ∧ W = w' :=
  new_form W (some ⟨q, 0, none⟩) 1 1 _ [-1] (Lib.hid (by decide)) (rds_lit (cur := [.int .i32 (-1)]) hq (by simp)) (by omega)
theorem splice_x (W : World) (t q : Nat) (F : List Nat) (h : TabIn W t F (newTb [97, 98])) (hq : W.heap[q]? = some (.cells #[.int .i32 120] 21 (0, 0))) (hF : q ∉ F) :
    Calls Try.prog 12 #[.pointer (some ⟨t, 0, none⟩), .int .i64 1, .int .i64 0, .slice (some ⟨q, 0, none⟩) 1 1] W (SplPost W t F ⟨[97, 98], [120], [⟨false, 0, 1⟩, ⟨true, 0, 1⟩, ⟨false, 1, 1⟩]⟩) := by
  have h := splice_do W t F (newTb [97, 98]) 1 0 (some ⟨q, 0, none⟩) 1 1 [120] h (by decide) (Lib.hid (by decide)) (by decide) (by decide) (rds_lit (cur := [.int .i32 120]) hq (by simp)) (by simpa [blk] using hF)
  rw [knownT] at h
  exact h
theorem pc_cells {w : World} {base : Nat} {v : Value} (h : w.ownsRow base 53 3 v 3 (pcs [⟨false, 0, 1⟩, ⟨true, 0, 1⟩, ⟨false, 1, 1⟩])) : ∃ (g c : Nat), v = .slice (some ⟨g, 0, none⟩) 3 c ∧ g < w.heap.size ∧ ∀ j, j < 9 → w.cell? ⟨g, j, none⟩ = [Value.bool false, .int .i64 0, .int .i64 1, .bool true, .int .i64 0, .int .i64 1, .bool false, .int .i64 1, .int .i64 1][j]? := by
  obtain ⟨g, cap, hv, _, hg2⟩ := h.form (by omega)
  subst hv
  exact ⟨g, cap, rfl, hg2, fun j hj => h.cellAt j (by omega)⟩

set_option maxHeartbeats 1000000 in
theorem known_any (W : World) : Calls Try.prog 15 #[] W fun e w' => e = .returned (.bool true) ∧ Below W.heap.size W w' := by
  go_enter Try.func15, Try.ntmps15
  go_upto_region 2 with (go_at_call 10; (with_reducible refine (new_two _ _ (heap_alloc_new _ _)).mono ?_); rintro e w1 ⟨t, F, rfl, hin, hF, hb⟩; have HIN := Lib.hid hin; have HF := Lib.hid hF; have HB := Lib.hid hb; clear hin hF hb)
  have HB1 : Hid (Below W.heap.size W w1) := ((Below.refl _ _).alloc (Nat.le_refl _) _).trans (HB.out.mono (by simp))
  have HX : Hid (∀ o, (w1.alloc o).heap.size = w1.heap.size + 1) := fun o => by simp
  have HQ : Hid (w1.heap.size ∉ F) := fun hm => Nat.lt_irrefl _ (HIN.out.lt _ hm)
  have HFG : Hid (∀ g ∈ F, W.heap.size ≤ g) := fun g hg => Nat.le_trans (by simp) (HF.out g hg)
  clear HB HF
  go_upto_region 4 with (go_at_call 12; (with_reducible refine (splice_x _ t _ F (HIN.out.below ((Below.refl _ _).alloc (Nat.le_refl _) _)) (heap_alloc_new _ _) HQ.out).mono ?_); rintro e w2 ⟨rfl, F2, hin2, hF2, hc2⟩; have HIN2 := Lib.hid hin2; have HC2 := Lib.hid hc2; clear hin2 hF2 hc2)
  have HB2 : Hid (Below W.heap.size W w2) := (HB1.out.alloc HB1.out.size _).trans (HC2.out.below HFG.out (by simp; have := HB1.out.size; omega))
  clear HC2 HIN HX HQ HFG HB1
  go_upto_region 7 with (first
    | (go_at_call 27; (with_reducible refine (pieces_any w2 t F2 _ HIN2.out).mono ?_); rintro e w3 ⟨v3, rfl, hown3, hb3⟩; obtain ⟨g, c3, rfl, hg3, hc3⟩ := pc_cells hown3; have HC3 := Lib.hid hc3; have HB3 := Lib.hid hb3; clear hown3 hc3 hb3)
    | (go_at_call 10; (with_reducible refine (new_bad _ _ (heap_alloc_new _ _)).mono ?_); rintro e w4 ⟨rfl, rfl⟩))
  generalize hX : w3.alloc (.cells #[.int .i32 (-1)] 21 (0, 0)) = X
  have HINX : Hid (TabIn X t F2 ⟨[97, 98], [120], [⟨false, 0, 1⟩, ⟨true, 0, 1⟩, ⟨false, 1, 1⟩]⟩) := by
    subst hX
    exact HIN2.out.below (HB3.out.alloc HB3.out.size _)
  have HBX : Hid (Below W.heap.size W X) := by
    subst hX
    exact HB2.out.trans ((HB3.out.alloc HB3.out.size _).mono HB2.out.size)
  have hcx : ∀ j, j < 9 → X.cell? ⟨g, j, none⟩ = [Value.bool false, .int .i64 0, .int .i64 1, .bool true, .int .i64 0, .int .i64 1, .bool false, .int .i64 1, .int .i64 1][j]? := by
    subst hX
    intro j hj
    exact (((Below.refl w3.heap.size w3).alloc (Nat.le_refl _) _).cell (p := ⟨g, j, none⟩) hg3).trans (HC3.out j hj)
  have y0 := hcx 0 (by omega)
  have y1 := hcx 1 (by omega)
  have y2 := hcx 2 (by omega)
  have y3 := hcx 3 (by omega)
  have y4 := hcx 4 (by omega)
  have y5 := hcx 5 (by omega)
  have y6 := hcx 6 (by omega)
  have y7 := hcx 7 (by omega)
  have y8 := hcx 8 (by omega)
  have HV1 : Hid ((([120] : List Int).length : Int) = 1) := rfl
  have HV3 : Hid ((plen [⟨false, 0, 1⟩, ⟨true, 0, 1⟩, ⟨false, 1, 1⟩] : Int) = 3) := rfl
  have HV4 : Hid (thereB (plen [⟨false, 0, 1⟩, ⟨true, 0, 1⟩, ⟨false, 1, 1⟩]) 4 0 = false) := Lib.hid (by decide)
  clear hX hcx hg3 HC3 HB3 HB2 HIN2
  go_wp2_with (first
    | (go_at_call 14; (with_reducible refine (added_any X t F2 _ 1 HV1 HINX.out).mono ?_); rintro e w5 ⟨rfl, rfl⟩)
    | (go_at_call 13; (with_reducible refine (len_any X t F2 _ 3 HV3 HINX.out).mono ?_); rintro e w5 ⟨rfl, rfl⟩)
    | (go_at_call 12; (with_reducible refine (splice_none X 0 0 none 0 0).mono ?_); rintro e w5 ⟨rfl, rfl⟩)
    | (go_at_call 13; (with_reducible refine (len_none X).mono ?_); rintro e w5 ⟨rfl, rfl⟩)
    | (go_at_call 38; (with_reducible refine (copy_none X).mono ?_); rintro e w5 ⟨rfl, rfl⟩)
    | (go_at_call 12; (with_reducible refine (splice_arg X t F2 _ 4 0 none 0 0 HINX.out HV4).mono ?_); rintro e w5 ⟨rfl, rfl⟩))
  go_ret
  exact ⟨rfl, HBX.out⟩
end Go.Proofs.Ytpfceochplghlaa
