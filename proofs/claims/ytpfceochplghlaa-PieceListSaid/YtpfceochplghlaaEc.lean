/- The walk of PieceList. -/
import Derived.Test.YtpfceochplghlaaEb
namespace Go.Proofs.Ytpfceochplghlaa
open Go.RowKit
attribute [local go_sem ↓] Go.wp_at_zero Go.wp_at_succ

set_option maxRecDepth 100000 in
set_option maxHeartbeats 2000000 in
theorem list_walk (W : World) (A0 E : Option Addr) (n0 c0 l cl : Nat) (xs : List Int) (L : List Dd) (hx : Rds W W.heap.size 1 A0 n0 (xs.map (Value.int .i32))) (hc : n0 ≤ c0) (hd : RdD W W.heap.size E l L) :
    Calls Try.prog 5 #[.slice A0 n0 c0, .slice E l cl] W fun e w' => e = .returned (.bool true) ∧ Below W.heap.size W w' := by
  have HC1 := cut_300 A0 n0 c0 hc
  have HX := Lib.hid (hx.front_ints (m := min n0 300) (by omega))
  have hn3 : min n0 300 ≤ 300 := by omega
  obtain ⟨n', en⟩ : ∃ n', min n0 300 = n' := ⟨_, rfl⟩
  rw [en] at HC1 HX hn3
  obtain ⟨S0, hS⟩ : ∃ S, cleanL (xs.take n') = S := ⟨_, rfl⟩
  have HMS : Hid (mayB S0 = true) := by rw [← hS]; exact may_clean _
  have HES := Lib.hid hS
  have HD := Lib.hid hd
  clear hx hc en hS hd
  go_enter Try.func5, Try.ntmps5
  go_upto_region 5 with (first
    | (go_at_call 17; (with_reducible refine (HC1 _).mono ?_); rintro e w' ⟨rfl, rfl⟩)
    | (go_at_call 16; (with_reducible refine (clean_any W A0 n' c0 (xs.take n') HX.out (by omega)).mono ?_); rintro e w1 ⟨v1, rfl, hown1, hb1⟩; obtain ⟨A1, c1, rfl, _, _⟩ := own_form hown1; have HO1 : Hid (w1.ownsRow W.heap.size 21 1 (.slice A1 n' c1) n' (S0.map (Value.int .i32))) := (by rw [← HES.out]; exact hown1); have HB1 := Lib.hid hb1; clear hown1 hb1)
    | (go_at_call 10; (with_reducible refine (list_new W.heap.size w1 A1 n' c1 S0 HMS (by omega) HO1.out HB1.out.size).mono ?_); rintro e w3 ⟨t, rfl, htp, hb3⟩; have HT3 := Lib.hid htp; have HB3 : Hid (Below W.heap.size W w3) := (bmore HB1.out (Nat.le_refl _) hb3); clear htp hb3))
  clear HO1 HB1
  go_wp2
  go_loopw [0, 7] (fun x0 x7 wr => ∃ (i n c : Nat) (A : Option Addr) (S : List Int) (w0 : World), w0 = wr ∧ i ≤ l ∧ x7 = .int .i64 i ∧ x0 = .slice A n c ∧ n ≤ c ∧ Hid (ListAt W.heap.size wr t A n c S S) ∧ Hid (Below W.heap.size W wr)) (fun _ x7 _ => l - (intOf x7).toNat)
  case atStart => exact ⟨0, n', c1, A1, S0, _, rfl, Nat.zero_le _, rfl, rfl, by assumption, HT3.out, HB3.out⟩
  case round =>
    obtain ⟨i, n, c, A, S, wr, rfl, hi, rfl, rfl, hnc, HT, HB⟩ := hrel
    by_cases hlt : i < l
    · by_cases hlt4 : i < 40
      · obtain ⟨ad, m, rfl, hadB, HM, y0, y1, y2, y3, hpt⟩ := (HD.out.below HB.out).at_ hlt
        obtain ⟨how, pl, ct, B, m, d, zs⟩ := m
        simp only at y0 y1 y2 y3
        have HPT := Lib.hid hpt.1
        have hmd := hpt.2.1
        have hdm := hpt.2.2.1
        simp only at hmd hdm
        have hm63 : m ≤ 9223372036854775807 := by simp only [maxLen] at hdm; omega
        have hJ1 : (0 : Int) ≤ (i : Int) ∧ (i : Int) < (l : Int) := by omega
        obtain ⟨hJ1a, hJ1b⟩ := hJ1
        have hst := list_step W.heap.size wr (.cells #[.int .i64 how, .int .i64 pl, .int .i64 ct, .slice B m d] 44 (0, 0)) t n c m d A B S zs pl ct HT.out HB.out.size HPT.out hm63
        clear hpt hdm
        rcases hst with ⟨hth, HST⟩ | ⟨r, hr0, HST⟩
        · have hth2 := hth
          simp only [thereB, decide_eq_true_eq] at hth2
          obtain ⟨a, rfl⟩ : ∃ a : Nat, pl = a := ⟨pl.toNat, by omega⟩
          obtain ⟨k, rfl⟩ : ∃ k : Nat, ct = k := ⟨ct.toNat, by omega⟩
          have HNK : Hid (a + k ≤ n) := by have := HT.out.len; show a + k ≤ n; omega
          have HW5 : Hid (thereB n (a : Int) (k : Int) = true) := by rw [← HT.out.len]; exact hth
          clear hth hth2
          have hn63 : n ≤ 9223372036854775807 := by have h1 := HT.out.len2; have h2 := HT.out.len; omega
          go_upto_region 10 with (go_at_call 12; (with_reducible refine HST.mono ?_); rintro e w5 ⟨rfl, hk5, hb5, hl5⟩; have HK5 := Lib.hid hk5; have HB5 := Lib.hid hb5; have HL5 := Lib.hid hl5; clear hk5 hb5 hl5)
          have HBW5 : Hid (Below W.heap.size W w5) := (HB.out.alloc HB.out.size _).trans HB5.out
          have HP5 : Hid (Rds w5 w5.heap.size 1 B m (zs.map (Value.int .i32))) := ((HPT.out.alloc HB.out.size _).below HB5.out).more HBW5.out.size
          have HM5 : Hid (m ≤ 1000) := by
            have h1 := HL5.out.len2
            have h2 := HPT.out.int_len
            simp only [splL, List.length_append] at h1
            show m ≤ 1000
            omega
          have HN5 : Hid (n ≤ 1000) := by have h1 := HT.out.len2; have h2 := HT.out.len; show n ≤ 1000; omega
          have x1 := cell_of_row w5 wr.heap.size 1 _ _ _ HK5.out
          have x2 := cell_of_row w5 wr.heap.size 2 _ _ _ HK5.out
          have x3 := cell_of_row w5 wr.heap.size 3 _ _ _ HK5.out
          have xl : wr.heap.size < w5.heap.size := (Array.getElem?_eq_some_iff.1 HK5.out).1
          clear HK5 y0 y1 y2 y3 HB HST
          go_upto_region 13 with (first
            | (go_at_call 23; (with_reducible refine (within_v n a k true HW5 hn63 _).mono ?_); rintro e w6 ⟨rfl, rfl⟩)
            | (go_at_call 24; (with_reducible refine (splice_any A B n c m d a k S zs w5 (Rds.of_own HL5.out.row) HP5.out hnc HNK.out (by have := HM5.out; have := HN5.out; omega)).mono ?_); rintro e w9 ⟨v9, rfl, hown9, hb9⟩; obtain ⟨A9, c9, rfl, hc9, _⟩ := own_form hown9; have H9 := Lib.hid (HL5.out.other hb9 HBW5.out.size hown9); have B9 : Hid (Below W.heap.size W w9) := bmore HBW5.out (Nat.le_refl _) hb9; clear hown9 hb9))
          have hspl : S.take a ++ zs ++ S.drop (a + k) = splL S a k zs := rfl
          rw [hspl] at H9
          simp only [Int.toNat_natCast] at H9
          obtain ⟨n9, hn9⟩ : ∃ n9, n - k + m = n9 := ⟨_, rfl⟩
          obtain ⟨S9, hS9⟩ : ∃ S9, splL S a k zs = S9 := ⟨_, rfl⟩
          rw [hn9] at hc9
          rw [hn9, hS9] at H9
          simp only [hn9]
          clear hn9 hS9 hspl x1 x2 x3 xl HM5 HN5 HP5 HPT HW5 HNK HL5 HBW5 HB5 HT hnc
          have hn1000 : n9 ≤ 1000 := by have h1 := H9.out.len2; have h2 := H9.out.len; omega
          have hng : ¬ (1000 : Int) < (n9 : Int) := by omega
          go_wp2_with (first
            | (go_at_call 26; (with_reducible refine (list_text W.heap.size w9 t n9 c9 A9 S9 S9 H9.out).mono ?_); rintro e w10 ⟨⟨A10, n10, c10, rfl, hr10, hn10⟩, hb10⟩; have HR10 := Lib.hid hr10; have HB10 := Lib.hid hb10; have H10 := Lib.hid (H9.out.below hb10); clear hr10 hb10)
            | (go_at_call 25; (with_reducible refine (same_self A10 A9 n10 c10 n9 c9 S9 w10.heap.size w10 HR10.out (Rds.of_own H10.out.row) (by omega)).mono ?_); rintro e w11 ⟨rfl, hb11⟩; have HB11 := Lib.hid hb11; have H11 := Lib.hid (H10.out.below hb11); clear hb11)
            | (go_at_call 13; (with_reducible refine (list_len W.heap.size w11 t n9 c9 A9 S9 H11.out).mono ?_); rintro e w12 ⟨rfl, rfl⟩))
          go_roundw
          case rel => exact ⟨i + 1, n9, c9, A9, S9, _, rfl, by omega, by go_num, rfl, hc9, H11.out, bmore (bmore B9.out (Nat.le_refl _) HB10.out) (Nat.le_refl _) HB11.out⟩
          case measure => simp [intOf]; omega
        · go_upto_region 13 with (go_at_call 12; (with_reducible refine HST.mono ?_); rintro e w9 ⟨rfl, hk5, hb5, hl5⟩; have HB5 := Lib.hid hb5; have H9 := Lib.hid hl5; clear hk5 hb5 hl5)
          have B9 : Hid (Below W.heap.size W w9) := (HB.out.alloc HB.out.size _).trans HB5.out
          clear y0 y1 y2 y3 HB HST HPT HB5 HT
          have hn1000 : n ≤ 1000 := by have h1 := H9.out.len2; have h2 := H9.out.len; omega
          have hng : ¬ (1000 : Int) < (n : Int) := by omega
          go_wp2_with (first
            | (go_at_call 26; (with_reducible refine (list_text W.heap.size w9 t n c A S S H9.out).mono ?_); rintro e w10 ⟨⟨A10, n10, c10, rfl, hr10, hn10⟩, hb10⟩; have HR10 := Lib.hid hr10; have HB10 := Lib.hid hb10; have H10 := Lib.hid (H9.out.below hb10); clear hr10 hb10)
            | (go_at_call 25; (with_reducible refine (same_self A10 A n10 c10 n c S w10.heap.size w10 HR10.out (Rds.of_own H10.out.row) (by omega)).mono ?_); rintro e w11 ⟨rfl, hb11⟩; have HB11 := Lib.hid hb11; have H11 := Lib.hid (H10.out.below hb11); clear hb11)
            | (go_at_call 13; (with_reducible refine (list_len W.heap.size w11 t n c A S H11.out).mono ?_); rintro e w12 ⟨rfl, rfl⟩))
          go_roundw
          case rel => exact ⟨i + 1, n, c, A, S, _, rfl, by omega, by go_num, rfl, hnc, H11.out, bmore (bmore B9.out (Nat.le_refl _) HB10.out) (Nat.le_refl _) HB11.out⟩
          case measure => simp [intOf]; omega
      · have hge : ¬ (i : Int) < 40 := by omega
        go_wp2_with (go_at_call 15; (with_reducible refine (known_any wr).mono ?_); rintro e w11 ⟨rfl, hb11⟩; have HB11 := Lib.hid hb11; clear hb11)
        go_ret
        exact ⟨rfl, bmore HB.out (Nat.le_refl _) HB11.out⟩
    · go_wp2_with (go_at_call 15; (with_reducible refine (known_any wr).mono ?_); rintro e w11 ⟨rfl, hb11⟩; have HB11 := Lib.hid hb11; clear hb11)
      go_ret
      exact ⟨rfl, bmore HB.out (Nat.le_refl _) HB11.out⟩
end Go.Proofs.Ytpfceochplghlaa
