/- The walk of PieceRoom. -/
import Derived.Test.YtpfceochplghlaaV
import Derived.Test.YtpfceochplghlaaD
namespace Go.Proofs.Ytpfceochplghlaa
open Go.RowKit
attribute [local go_sem ↓] Go.wp_at_zero Go.wp_at_succ

theorem new_zeros (W : World) (q : Nat) (hq : W.heap[q]? = some (.cells ((zerosL 1000).map (Value.int .i32)).toArray 21 (0, 0))) : Calls Try.prog 10 #[.slice (some ⟨q, 0, none⟩) 1000 1000] W fun e w' => ∃ t, e = .returned (.tuple #[.pointer (some ⟨t, 0, none⟩), .int .i64 0]) ∧ RoomAt W.heap.size w' t 1000 0 ∧ Below W.heap.size W w' := by
  refine (new_ok W _ 1000 1000 (zerosL 1000) (may_zeros 1000) (Nat.le_refl _) (rds_zeros hq (by omega))).mono ?_
  rintro e w' ⟨t, F, rfl, hin, hF, hb⟩
  exact ⟨t, rfl, ⟨F, _, hin, by rw [newTb_len, zerosL_len], rfl, hF⟩, hb⟩
theorem new_over (W : World) (q : Nat) (hq : W.heap[q]? = some (.cells ((zerosL 1001).map (Value.int .i32)).toArray 21 (0, 0))) : Calls Try.prog 10 #[.slice (some ⟨q, 0, none⟩) 1001 1001] W fun e w' => e = .returned (.tuple #[.pointer none, .int .i64 3]) ∧ W = w' :=
  new_full W _ 1001 1001 _ (zerosL 1001) (may_zeros 1001) (by omega) (rds_zeros hq (by omega)) (by omega)

/-- The contracts at the numbers that the walk meets. -/
theorem full_one (N : Nat) (w : World) (t l n a q : Nat) (y : Int) (h : RoomAt N w t l n) (ha : a ≤ l) (hy : Hid (sgB y = true)) (hq : w.heap[q]? = some (.cells #[.int .i32 y] 21 (0, 0))) (h2 : ¬ (l + 1 ≤ 1000 ∧ n + 1 ≤ 20000)) :
    Calls Try.prog 12 #[.pointer (some ⟨t, 0, none⟩), .int .i64 a, .int .i64 0, .slice (some ⟨q, 0, none⟩) 1 1] w fun e w' => e = .returned (.int .i64 3) ∧ w = w' :=
  room_full N w t l n a 0 1 1 _ _ [y] h (by omega) (Lib.hid (by simp [mayB, hy.out])) (rds_lit (cur := [.int .i32 y]) hq (by simp)) (by omega) (by simpa using h2)
theorem full_zero (N : Nat) (w : World) (t l n q : Nat) (y : Int) (h : RoomAt N w t l n) (hy : Hid (sgB y = true)) (hq : w.heap[q]? = some (.cells #[.int .i32 y] 21 (0, 0))) (h2 : ¬ (l + 1 ≤ 1000 ∧ n + 1 ≤ 20000)) :
    Calls Try.prog 12 #[.pointer (some ⟨t, 0, none⟩), .int .i64 0, .int .i64 0, .slice (some ⟨q, 0, none⟩) 1 1] w fun e w' => e = .returned (.int .i64 3) ∧ w = w' :=
  full_one N w t l n 0 q y h (Nat.zero_le _) hy hq h2
theorem new_one (N : Nat) (w : World) (t n a q : Nat) (y : Int) (h : RoomAt N w t 1000 n) (hN : N ≤ w.heap.size) (ha : a < 1000) (hy : Hid (sgB y = true)) (h2 : n + 1 ≤ 20000) (hq : q = w.heap.size) :
    Calls Try.prog 12 #[.pointer (some ⟨t, 0, none⟩), .int .i64 a, .int .i64 1, .slice (some ⟨q, 0, none⟩) 1 1] (w.alloc (.cells #[.int .i32 y] 21 (0, 0))) (RoomPost N (w.alloc (.cells #[.int .i32 y] 21 (0, 0))) t 1000 (n + 1)) := by
  subst hq
  exact room_new N w _ t 1000 n a 1 1 1 w.heap.size [y] h ((Below.refl _ _).alloc (Nat.le_refl _) _) (Nat.le_refl _) (by omega) (Lib.hid (by simp [mayB, hy.out])) (rds_lit (cur := [.int .i32 y]) (heap_alloc_new _ _) (by simp)) hN (by omega) (by omega)
theorem old_all (N : Nat) (w : World) (t n q m c : Nat) (h : RoomAt N w t 1000 n) (hq : w.heap[q]? = some (.cells ((zerosL 1000).map (Value.int .i32)).toArray 21 (0, 0))) (hqN : q < N) (hN : N ≤ w.heap.size) (hm : m ≤ 1000) (h2 : n + m ≤ 20000) :
    Calls Try.prog 12 #[.pointer (some ⟨t, 0, none⟩), .int .i64 0, .int .i64 1000, .slice (some ⟨q, 0, none⟩) m c] w (RoomPost N w t m (n + m)) := by
  have hr : Rds w N 1 (some ⟨q, 0, none⟩) m ((zerosL m).map (Value.int .i32)) := by
    have h1 := (rds_zeros hq (by omega)).front (m := m) hm
    have e : ((zerosL 1000).map (Value.int .i32)).take (m * 1) = (zerosL m).map (Value.int .i32) := by
      rw [← List.map_take, zerosL, List.take_replicate, Nat.mul_one, Nat.min_eq_left hm, zerosL]
    rw [e] at h1
    refine ⟨h1.1, fun j hj => ?_⟩
    obtain ⟨ad, ead, _, hc⟩ := h1.2 j hj
    injection ead with ead
    subst ead
    exact ⟨_, rfl, hqN, hc⟩
  have h3 := room_old N w t 1000 n 0 1000 m c _ (zerosL m) h (by omega) (Lib.hid (may_zeros m)) hr (by simpa [blk] using hqN) hN (by omega) (by omega)
  simp only [Nat.sub_self, Nat.zero_add] at h3
  exact h3
theorem cut_one (N : Nat) (w : World) (t l n : Nat) (h : RoomAt N w t l n) (h1 : 1 ≤ l ∧ l ≤ 1000 ∧ n ≤ 20000) (hN : N ≤ w.heap.size) :
    Calls Try.prog 12 #[.pointer (some ⟨t, 0, none⟩), .int .i64 0, .int .i64 1, .slice none 0 0] w (RoomPost N w t (l - 1) n) :=
  room_old N w t l n 0 1 0 0 none [] h (by omega) (Lib.hid rfl) (Rds.nil _ _ _ _) (by simp [blk]) hN (by omega) (by omega)

set_option maxHeartbeats 1000000 in
theorem room_walk (W : World) (z k : Int) (v : Bool) (hv : Hid (sgB z = v)) : Calls Try.prog 3 #[.int .i32 z, .int .i64 k] W fun e w' => e = .returned (.bool true) ∧ Below W.heap.size W w' := by
  obtain ⟨y, hy, hys⟩ : ∃ y, (if v then z else 112) = y ∧ sgB y = true := by
    cases v with
    | true => exact ⟨z, rfl, hv.out⟩
    | false => exact ⟨112, rfl, rfl⟩
  have R1 : ∀ w : World, (Instr.makeSlice 23 (.int .i64 1000) (.int .i64 1000)).run Try.prog w = .ok (.slice (some ⟨w.heap.size, 0, none⟩) 1000 1000) (w.alloc (.cells ((zerosL 1000).map (Value.int .i32)).toArray 21 (0, 0))) := run_zeros 1000 (by omega)
  have R2 : ∀ w : World, (Instr.makeSlice 23 (.int .i64 1001) (.int .i64 1001)).run Try.prog w = .ok (.slice (some ⟨w.heap.size, 0, none⟩) 1001 1001) (w.alloc (.cells ((zerosL 1001).map (Value.int .i32)).toArray 21 (0, 0))) := run_zeros 1001 (by omega)
  generalize hL : ((zerosL 1000).map (Value.int .i32)).toArray = L at *
  generalize hM : ((zerosL 1001).map (Value.int .i32)).toArray = M at *
  have HL := Lib.hid hL
  have HM := Lib.hid hM
  have HY := Lib.hid hys
  clear hL hM hys
  cases v with
  | true =>
    simp only [if_true] at hy
    subst hy
    go_enter Try.func3, Try.ntmps3
    go_upto_region 6 with (first
      | (go_at_call 9; (with_reducible refine (sign_v z true hv _).mono ?_); rintro e w1 ⟨rfl, rfl⟩)
      | (go_at_call 10; (with_reducible refine (new_zeros _ _ (by rw [HL.out]; exact heap_alloc_new _ _)).mono ?_); rintro e w1 ⟨t, rfl, hrm, hb⟩; have HRM := Lib.hid hrm; have HB := Lib.hid hb; clear hrm hb)
      | (go_at_call 10; (with_reducible refine (new_over _ _ (by rw [HM.out]; exact heap_alloc_new _ _)).mono ?_); rintro e w2 ⟨rfl, rfl⟩))
    have HN : Hid (W.heap.size + 1 ≤ w1.heap.size) := Lib.hid (by have := HB.out.size; simpa using this)
    have HRW : Hid (RoomAt (W.heap.size + 1) (w1.alloc (.cells M 21 (0, 0))) t 1000 0) := by
      have h := HRM.out.below ((Below.refl _ _).alloc (Nat.le_refl _) (.cells M 21 (0, 0)))
      exact Lib.hid (by simpa using h)
    have HBW : Hid (Below (W.heap.size + 1) (W.alloc (.cells L 21 (0, 0))) (w1.alloc (.cells M 21 (0, 0)))) := by
      have h := HB.out.alloc HB.out.size (.cells M 21 (0, 0))
      exact Lib.hid (by simpa using h)
    have HNX : Hid (W.heap.size + 1 ≤ (w1.alloc (.cells M 21 (0, 0))).heap.size) := by have := HN.out; show _ ≤ _; simp; omega
    generalize w1.alloc (.cells M 21 (0, 0)) = X at *
    clear HRM HB HN R1 R2
    obtain ⟨N, hN⟩ : ∃ N, W.heap.size + 1 = N := ⟨_, rfl⟩
    rw [hN] at HRW HBW HNX
    have HNN := Lib.hid hN
    clear hN
    obtain ⟨i0, hi0⟩ : ∃ i, idx k 1000 = i := ⟨_, rfl⟩
    have HI : Hid (i0 < 1000) := by rw [← hi0]; exact idx_lt k 1000 (by omega)
    have HIX : ∀ w, Calls Try.prog 11 #[.int .i64 k, .int .i64 1000] w fun e w' => e = .returned (.int .i64 i0) ∧ w = w' := by
      intro w
      have h := index_any k 1000 (by omega) (by omega) w
      rw [hi0] at h
      exact h
    clear hi0
    go_upto_region 11 with (first
      | (go_at_call 11; (with_reducible refine (HIX _).mono ?_); rintro e w2 ⟨rfl, rfl⟩)
      | (go_at_call 12; (with_reducible refine (full_one N _ t 1000 0 i0 _ z (HRW.out.below ((Below.refl _ _).alloc (Nat.le_refl _) _)) (Nat.le_of_lt HI.out) HY (heap_alloc_new _ _) (by omega)).mono ?_); rintro e w2 ⟨rfl, rfl⟩)
      | (go_at_call 12; (with_reducible refine (new_one N (X.alloc (.cells #[.int .i32 z] 21 (0, 0))) t 0 i0 _ z (HRW.out.below ((Below.refl _ _).alloc (Nat.le_refl _) _)) (by first | exact HNX.out | (have := HNX.out; simp; omega)) HI.out HY (by omega) (by simp)).mono ?_); rintro e w3 ⟨rfl, hrm3, hb3⟩; have HR3 := Lib.hid hrm3; have HB3 := Lib.hid hb3; clear hrm3 hb3)
      | (go_at_call 13; (with_reducible refine (room_len N w3 t 1000 _ HR3.out).mono ?_); rintro e w4 ⟨rfl, rfl⟩)
      | (go_at_call 14; (with_reducible refine (room_added N w3 t 1000 _ HR3.out).mono ?_); rintro e w4 ⟨rfl, rfl⟩))
    have HLT : Hid ((W.alloc (.cells L 21 (0, 0))).heap.size = N) := Lib.hid (by have := HNN.out; simpa using this)
    have HB4 : Hid (Below N (W.alloc (.cells L 21 (0, 0))) w3) := Lib.hid (((HBW.out.alloc HNX.out _).alloc (by have := HNX.out; simp; omega) _).trans HB3.out)
    have HR4 : Hid (RoomAt N w3 t 1000 1) := HR3.out
    clear HR3 HB3 HBW HNX HRW HIX
    go_wp2
    go_loopw [11] (fun s wr => ∃ (i : Nat), i ≤ 19 ∧ s = .int .i64 i ∧ Hid (RoomAt N wr t 1000 (1 + 1000 * i)) ∧ Hid (Below N (W.alloc (.cells L 21 (0, 0))) wr)) (fun s _ => 19 - (intOf s).toNat)
    case atStart => exact ⟨0, by omega, rfl, HR4.out, HB4.out⟩
    case round =>
      obtain ⟨i, hi, rfl, HRR, HBB⟩ := hrel
      have HWq : Hid (wr.heap[W.heap.size]? = some (.cells ((zerosL 1000).map (Value.int .i32)).toArray 21 (0, 0)) ∧ W.heap.size < N ∧ N ≤ wr.heap.size) := by
        have h1 := HNN.out
        have h2 := HBB.out.size
        have h3 := HLT.out
        refine ⟨?_, by omega, by omega⟩
        rw [HL.out]
        exact (HBB.out.block _ (by omega)).trans (heap_alloc_new _ _)
      by_cases hlt : i < 19
      · go_wp2_with (go_at_call 12; (with_reducible refine (old_all N wr t (1 + 1000 * i) _ 1000 1000 HRR.out HWq.out.1 HWq.out.2.1 HWq.out.2.2 (by omega) (by omega)).mono ?_); rintro e w5 ⟨rfl, hrm5, hb5⟩; have HR5 := Lib.hid hrm5; have HB5 := Lib.hid hb5; clear hrm5 hb5)
        go_roundw
        case rel => 
          have h := HR5.out
          rw [show 1 + 1000 * i + 1000 = 1 + 1000 * (i + 1) from by omega] at h
          exact ⟨i + 1, by omega, by go_num, h, HBB.out.trans HB5.out⟩
        case measure => simp [intOf]; omega
      · have hie : i = 19 := by omega
        subst hie
        have hs999 : ∀ w, (Instr.slice 23 (.slice (some ⟨W.heap.size, 0, none⟩) 1000 1000) none (some (.int .i64 999)) none).run Try.prog w = .ok (.slice (some ⟨W.heap.size, 0, none⟩) 999 1000) w := fun w => slice_to _ 1000 1000 999 (by omega) w
        have HKN := known_any
        have HR19 : Hid (RoomAt N wr t 1000 19001) := HRR.out
        have HBX := Lib.hid HBB.out
        clear HRR HBB HR4 HB4 hlt hi
        go_upto_region 17 with (go_at_call 14; (with_reducible refine (room_added N wr t 1000 19001 HR19.out).mono ?_); rintro e w6 ⟨rfl, rfl⟩)
        go_wp2_with (first
          | (go_at_call 12; (with_reducible refine (old_all N wr t 19001 _ 999 1000 HR19.out HWq.out.1 HWq.out.2.1 HWq.out.2.2 (by omega) (by omega)).mono ?_); rintro e w6 ⟨rfl, hrm6, hb6⟩; have HR6 : Hid (RoomAt N w6 t 999 20000) := hrm6; have HB6 := Lib.hid hb6; have HN6 : Hid (N ≤ w6.heap.size) := Nat.le_trans HWq.out.2.2 HB6.out.size; clear hrm6 hb6)
          | (go_at_call 12; (with_reducible refine (full_zero N _ t 999 20000 _ z (HR6.out.below ((Below.refl _ _).alloc (Nat.le_refl _) _)) HY (heap_alloc_new _ _) (by omega)).mono ?_); rintro e w7 ⟨rfl, rfl⟩)
          | (go_at_call 12; (with_reducible refine (cut_one N _ t 999 20000 (HR6.out.below ((Below.refl _ _).alloc (Nat.le_refl _) _)) (by omega) (by have := HN6.out; simp; omega)).mono ?_); rintro e w8 ⟨rfl, hrm8, hb8⟩; have HR8 : Hid (RoomAt N w8 t 998 20000) := hrm8; have HB8 := Lib.hid hb8; clear hrm8 hb8)
          | (go_at_call 13; (with_reducible refine (room_len N w8 t 998 20000 HR8.out).mono ?_); rintro e w9 ⟨rfl, rfl⟩)
          | (go_at_call 15; (with_reducible refine (known_any w8).mono ?_); rintro e w9 ⟨rfl, hb9⟩; have HB9 := Lib.hid hb9; clear hb9))
        go_ret
        refine ⟨rfl, ?_⟩
        have h1 : Below N (W.alloc (.cells L 21 (0, 0))) w8 := ((HBX.out.trans HB6.out).alloc HN6.out _).trans HB8.out
        have h2 : Below N (W.alloc (.cells L 21 (0, 0))) w9 := h1.trans (HB9.out.mono (Nat.le_trans (by have := HLT.out; omega) h1.size))
        exact ((Below.refl _ _).alloc (Nat.le_refl _) _).trans (h2.mono (by have := HNN.out; omega))
  | false =>
    simp only [Bool.false_eq_true, if_false] at hy
    subst hy
    go_enter Try.func3, Try.ntmps3
    go_upto_region 6 with (first
      | (go_at_call 9; (with_reducible refine (sign_v z false hv _).mono ?_); rintro e w1 ⟨rfl, rfl⟩)
      | (go_at_call 10; (with_reducible refine (new_zeros _ _ (by rw [HL.out]; exact heap_alloc_new _ _)).mono ?_); rintro e w1 ⟨t, rfl, hrm, hb⟩; have HRM := Lib.hid hrm; have HB := Lib.hid hb; clear hrm hb)
      | (go_at_call 10; (with_reducible refine (new_over _ _ (by rw [HM.out]; exact heap_alloc_new _ _)).mono ?_); rintro e w2 ⟨rfl, rfl⟩))
    have HN : Hid (W.heap.size + 1 ≤ w1.heap.size) := Lib.hid (by have := HB.out.size; simpa using this)
    have HRW : Hid (RoomAt (W.heap.size + 1) (w1.alloc (.cells M 21 (0, 0))) t 1000 0) := by
      have h := HRM.out.below ((Below.refl _ _).alloc (Nat.le_refl _) (.cells M 21 (0, 0)))
      exact Lib.hid (by simpa using h)
    have HBW : Hid (Below (W.heap.size + 1) (W.alloc (.cells L 21 (0, 0))) (w1.alloc (.cells M 21 (0, 0)))) := by
      have h := HB.out.alloc HB.out.size (.cells M 21 (0, 0))
      exact Lib.hid (by simpa using h)
    have HNX : Hid (W.heap.size + 1 ≤ (w1.alloc (.cells M 21 (0, 0))).heap.size) := by have := HN.out; show _ ≤ _; simp; omega
    generalize w1.alloc (.cells M 21 (0, 0)) = X at *
    clear HRM HB HN R1 R2
    obtain ⟨N, hN⟩ : ∃ N, W.heap.size + 1 = N := ⟨_, rfl⟩
    rw [hN] at HRW HBW HNX
    have HNN := Lib.hid hN
    clear hN
    obtain ⟨i0, hi0⟩ : ∃ i, idx k 1000 = i := ⟨_, rfl⟩
    have HI : Hid (i0 < 1000) := by rw [← hi0]; exact idx_lt k 1000 (by omega)
    have HIX : ∀ w, Calls Try.prog 11 #[.int .i64 k, .int .i64 1000] w fun e w' => e = .returned (.int .i64 i0) ∧ w = w' := by
      intro w
      have h := index_any k 1000 (by omega) (by omega) w
      rw [hi0] at h
      exact h
    clear hi0
    go_upto_region 11 with (first
      | (go_at_call 11; (with_reducible refine (HIX _).mono ?_); rintro e w2 ⟨rfl, rfl⟩)
      | (go_at_call 12; (with_reducible refine (full_one N _ t 1000 0 i0 _ 112 (HRW.out.below ((Below.refl _ _).alloc (Nat.le_refl _) _)) (Nat.le_of_lt HI.out) HY (heap_alloc_new _ _) (by omega)).mono ?_); rintro e w2 ⟨rfl, rfl⟩)
      | (go_at_call 12; (with_reducible refine (new_one N (X.alloc (.cells #[.int .i32 112] 21 (0, 0))) t 0 i0 _ 112 (HRW.out.below ((Below.refl _ _).alloc (Nat.le_refl _) _)) (by first | exact HNX.out | (have := HNX.out; simp; omega)) HI.out HY (by omega) (by simp)).mono ?_); rintro e w3 ⟨rfl, hrm3, hb3⟩; have HR3 := Lib.hid hrm3; have HB3 := Lib.hid hb3; clear hrm3 hb3)
      | (go_at_call 13; (with_reducible refine (room_len N w3 t 1000 _ HR3.out).mono ?_); rintro e w4 ⟨rfl, rfl⟩)
      | (go_at_call 14; (with_reducible refine (room_added N w3 t 1000 _ HR3.out).mono ?_); rintro e w4 ⟨rfl, rfl⟩))
    have HLT : Hid ((W.alloc (.cells L 21 (0, 0))).heap.size = N) := Lib.hid (by have := HNN.out; simpa using this)
    have HB4 : Hid (Below N (W.alloc (.cells L 21 (0, 0))) w3) := Lib.hid (((HBW.out.alloc HNX.out _).alloc (by have := HNX.out; simp; omega) _).trans HB3.out)
    have HR4 : Hid (RoomAt N w3 t 1000 1) := HR3.out
    clear HR3 HB3 HBW HNX HRW HIX
    go_wp2
    go_loopw [11] (fun s wr => ∃ (i : Nat), i ≤ 19 ∧ s = .int .i64 i ∧ Hid (RoomAt N wr t 1000 (1 + 1000 * i)) ∧ Hid (Below N (W.alloc (.cells L 21 (0, 0))) wr)) (fun s _ => 19 - (intOf s).toNat)
    case atStart => exact ⟨0, by omega, rfl, HR4.out, HB4.out⟩
    case round =>
      obtain ⟨i, hi, rfl, HRR, HBB⟩ := hrel
      have HWq : Hid (wr.heap[W.heap.size]? = some (.cells ((zerosL 1000).map (Value.int .i32)).toArray 21 (0, 0)) ∧ W.heap.size < N ∧ N ≤ wr.heap.size) := by
        have h1 := HNN.out
        have h2 := HBB.out.size
        have h3 := HLT.out
        refine ⟨?_, by omega, by omega⟩
        rw [HL.out]
        exact (HBB.out.block _ (by omega)).trans (heap_alloc_new _ _)
      by_cases hlt : i < 19
      · go_wp2_with (go_at_call 12; (with_reducible refine (old_all N wr t (1 + 1000 * i) _ 1000 1000 HRR.out HWq.out.1 HWq.out.2.1 HWq.out.2.2 (by omega) (by omega)).mono ?_); rintro e w5 ⟨rfl, hrm5, hb5⟩; have HR5 := Lib.hid hrm5; have HB5 := Lib.hid hb5; clear hrm5 hb5)
        go_roundw
        case rel => 
          have h := HR5.out
          rw [show 1 + 1000 * i + 1000 = 1 + 1000 * (i + 1) from by omega] at h
          exact ⟨i + 1, by omega, by go_num, h, HBB.out.trans HB5.out⟩
        case measure => simp [intOf]; omega
      · have hie : i = 19 := by omega
        subst hie
        have hs999 : ∀ w, (Instr.slice 23 (.slice (some ⟨W.heap.size, 0, none⟩) 1000 1000) none (some (.int .i64 999)) none).run Try.prog w = .ok (.slice (some ⟨W.heap.size, 0, none⟩) 999 1000) w := fun w => slice_to _ 1000 1000 999 (by omega) w
        have HKN := known_any
        have HR19 : Hid (RoomAt N wr t 1000 19001) := HRR.out
        have HBX := Lib.hid HBB.out
        clear HRR HBB HR4 HB4 hlt hi
        go_upto_region 17 with (go_at_call 14; (with_reducible refine (room_added N wr t 1000 19001 HR19.out).mono ?_); rintro e w6 ⟨rfl, rfl⟩)
        go_wp2_with (first
          | (go_at_call 12; (with_reducible refine (old_all N wr t 19001 _ 999 1000 HR19.out HWq.out.1 HWq.out.2.1 HWq.out.2.2 (by omega) (by omega)).mono ?_); rintro e w6 ⟨rfl, hrm6, hb6⟩; have HR6 : Hid (RoomAt N w6 t 999 20000) := hrm6; have HB6 := Lib.hid hb6; have HN6 : Hid (N ≤ w6.heap.size) := Nat.le_trans HWq.out.2.2 HB6.out.size; clear hrm6 hb6)
          | (go_at_call 12; (with_reducible refine (full_zero N _ t 999 20000 _ 112 (HR6.out.below ((Below.refl _ _).alloc (Nat.le_refl _) _)) HY (heap_alloc_new _ _) (by omega)).mono ?_); rintro e w7 ⟨rfl, rfl⟩)
          | (go_at_call 12; (with_reducible refine (cut_one N _ t 999 20000 (HR6.out.below ((Below.refl _ _).alloc (Nat.le_refl _) _)) (by omega) (by have := HN6.out; simp; omega)).mono ?_); rintro e w8 ⟨rfl, hrm8, hb8⟩; have HR8 : Hid (RoomAt N w8 t 998 20000) := hrm8; have HB8 := Lib.hid hb8; clear hrm8 hb8)
          | (go_at_call 13; (with_reducible refine (room_len N w8 t 998 20000 HR8.out).mono ?_); rintro e w9 ⟨rfl, rfl⟩)
          | (go_at_call 15; (with_reducible refine (known_any w8).mono ?_); rintro e w9 ⟨rfl, hb9⟩; have HB9 := Lib.hid hb9; clear hb9))
        go_ret
        refine ⟨rfl, ?_⟩
        have h1 : Below N (W.alloc (.cells L 21 (0, 0))) w8 := ((HBX.out.trans HB6.out).alloc HN6.out _).trans HB8.out
        have h2 : Below N (W.alloc (.cells L 21 (0, 0))) w9 := h1.trans (HB9.out.mono (Nat.le_trans (by have := HLT.out; omega) h1.size))
        exact ((Below.refl _ _).alloc (Nat.le_refl _) _).trans (h2.mono (by have := HNN.out; omega))
end Go.Proofs.Ytpfceochplghlaa
