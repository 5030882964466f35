/- The walk of PiecePlays. -/
import Derived.Test.YtpfceochplghlaaSd
namespace Go.Proofs.Ytpfceochplghlaa
open Go.RowKit
attribute [local go_sem ↓] Go.wp_at_zero Go.wp_at_succ

set_option maxRecDepth 100000 in
set_option maxHeartbeats 4000000 in
theorem plays_walk (W : World) (A E : Option Addr) (n c l cl : Nat) (zs : List Int) (L : List Dd) (hx : Rds W W.heap.size 1 A n (zs.map (Value.int .i32))) (hd : RdD W W.heap.size E l L) (hn : n * 4 ≤ 140737488351232) :
    Calls Try.prog 8 #[.slice A n c, .slice E l cl] W fun e w' => e = .returned (.bool true) ∧ Below W.heap.size W w' := by
  have HX := Lib.hid hx
  have HD := Lib.hid hd
  have hn63 : n ≤ 9223372036854775807 := by omega
  have hn70 : n ≤ 70368744177664 := by omega
  have hn263 : n + 2 ≤ 9223372036854775807 := by omega
  have HPU : Hid (∀ (w : World) (base g cap : Nat), w.ownsRow base 21 1 (.slice (some ⟨g, 0, none⟩) (n + 2) cap) (n + 2) ((zs ++ [-77, -78]).map (Value.int .i32)) → Rds w w.heap.size 1 (some ⟨g, 0, none⟩) n (zs.map (Value.int .i32))) := fun w base g cap ho => by
    have ly := HX.out.int_len
    have h := (Rds.of_own ho).front (m := n) (by omega)
    rw [Nat.mul_one, List.map_append, List.take_append_of_le_length (by simp [ly]), List.take_of_length_le (by simp [ly])] at h
    exact h
  clear hx hd
  cases hm : mayB zs with
  | false =>
    have HM := Lib.hid hm
    clear hm
    go_enter Try.func8, Try.ntmps8
    go_wp2_with (first
      | (go_at_call 28; (with_reducible refine (lend_any A n c zs W HX.out hn).mono ?_); rintro e w1 ⟨g, cap, rfl, hown1, hb1⟩; have HB1 := Lib.hid hb1; have HR1 := Lib.hid (HPU.out _ _ _ _ hown1); have HX1 := Lib.hid (HX.out.below hb1); clear hown1 hb1)
      | (go_at_call 10; (with_reducible refine (new_form w1 _ n cap _ zs HM HR1.out hn63).mono ?_); rintro e w' ⟨rfl, rfl⟩)
      | (go_at_call 18; (with_reducible refine (rnew_form w1 A n c _ zs HM HX1.out hn63).mono ?_); rintro e w' ⟨rfl, rfl⟩)
      | (go_at_call 15; (with_reducible refine (known_any w1).mono ?_); rintro e w2 ⟨rfl, hb2⟩; have HB2 := Lib.hid hb2; clear hb2))
    go_ret
    exact ⟨rfl, bmore HB1.out (Nat.le_refl _) HB2.out⟩
  | true =>
    have HM := Lib.hid hm
    clear hm
    by_cases hbig : 1000 < n
    · go_enter Try.func8, Try.ntmps8
      go_wp2_with (first
        | (go_at_call 28; (with_reducible refine (lend_any A n c zs W HX.out hn).mono ?_); rintro e w1 ⟨g, cap, rfl, hown1, hb1⟩; have HB1 := Lib.hid hb1; have HR1 := Lib.hid (HPU.out _ _ _ _ hown1); have HX1 := Lib.hid (HX.out.below hb1); clear hown1 hb1)
        | (go_at_call 10; (with_reducible refine (new_full w1 _ n cap _ zs HM hbig HR1.out hn63).mono ?_); rintro e w' ⟨rfl, rfl⟩)
        | (go_at_call 18; (with_reducible refine (rnew_full w1 A n c _ zs HM hbig HX1.out hn63).mono ?_); rintro e w' ⟨rfl, rfl⟩)
        | (go_at_call 15; (with_reducible refine (known_any w1).mono ?_); rintro e w2 ⟨rfl, hb2⟩; have HB2 := Lib.hid hb2; clear hb2))
      go_ret
      exact ⟨rfl, bmore HB1.out (Nat.le_refl _) HB2.out⟩
    · have hsm : n ≤ 1000 := by omega
      go_enter Try.func8, Try.ntmps8
      go_upto_region 8 with (first
        | (go_at_call 28; (with_reducible refine (lend_any A n c zs W HX.out hn).mono ?_); rintro e w1 ⟨g, cap, rfl, hown1, hb1⟩; have HB1 := Lib.hid hb1; have HO1 := Lib.hid hown1; have HR1 := Lib.hid (HPU.out _ _ _ _ hown1); clear hown1 hb1)
        | (go_at_call 10; (with_reducible refine (new_ok w1 _ n cap zs HM hsm HR1.out).mono ?_); rintro e w2 ⟨t, F, rfl, hin2, hF2, hb2⟩; have HI2 := Lib.hid hin2; have HF2 := Lib.hid hF2; have HB12 := Lib.hid hb2; have HB2 : Hid (Below W.heap.size W w2) := bmore HB1.out (Nat.le_refl _) hb2; have HX2 : Hid (Rds w2 w2.heap.size 1 A n (zs.map (Value.int .i32))) := (HX.out.below HB2.out).more HB2.out.size; clear hin2 hF2 hb2)
        | (go_at_call 18; (with_reducible refine (rnew_ok w2 A n c zs HM hsm HX2.out).mono ?_); rintro e w3 ⟨r, G, rfl, hin3, hG3, hb3⟩; have HI3 := Lib.hid hin3; have HG3 := Lib.hid hG3; have HB23 := Lib.hid hb3; have HB3 : Hid (Below W.heap.size W w3) := bmore HB2.out (Nat.le_refl _) hb3; have HX3 : Hid (Rds w3 w3.heap.size 1 A n (zs.map (Value.int .i32))) := (HX.out.below HB3.out).more HB3.out.size; have HO3 : Hid (w3.ownsRow W.heap.size 21 1 (.slice (some ⟨g, 0, none⟩) (n + 2) cap) (n + 2) ((zs ++ [-77, -78]).map (Value.int .i32))) := own_below (own_below HO1.out HB12.out fun k hk => (HO1.out.lt k hk).2) hb3 fun k hk => Nat.lt_of_lt_of_le (HO1.out.lt k hk).2 HB12.out.size; clear hin3 hG3 hb3)
        | (go_at_call 29; (with_reducible refine (kept_any g n cap c w3.heap.size W.heap.size A zs w3 HO3.out HX3.out hn70 (Nat.le_refl _)).mono ?_); rintro e w4 ⟨rfl, q4, hq4⟩; have HB34 : Hid (Below w3.heap.size w3 w4) := (by rw [hq4]; exact below_drewN (Below.refl _ _) q4); have HO4 : Hid (w4.ownsRow W.heap.size 21 1 (.slice (some ⟨g, 0, none⟩) (n + 2) cap) (n + 2) ((zs ++ [-77, -78]).map (Value.int .i32))) := own_below HO3.out HB34.out (fun k hk => (HO3.out.lt k hk).2); clear hq4))
      have hgb := own_base HO1.out
      have HPV : Hid (PairAv W.heap.size w4 t r g) := by
        have h1 := HI2.out.lt
        have h2 := hgb.2
        have h3 := HB12.out.size
        have hs1 := HB1.out.size
        refine PairAv.below ⟨F, G, _, HI2.out.below HB23.out, HI3.out, fun x hx => Nat.le_trans hs1 (HF2.out x hx), fun x hx => ?_, fun x hx hx' => ?_, fun hm => ?_, fun hm => ?_⟩ HB34.out
        · have := HG3.out x hx; omega
        · have := h1 x hx; have := HG3.out x hx'; omega
        · have := HF2.out g hm; simp only at h2; omega
        · have := HG3.out g hm; simp only at h2; omega
      have HB4 : Hid (Below W.heap.size W w4) := bmore HB3.out (Nat.le_refl _) HB34.out
      have HGB : Hid (W.heap.size ≤ g) := hgb.1
      clear HO1 HR1 HI2 HF2 HI3 HG3 HX2 HX3 HO3 HB12 HB23 HB34 HB1 HB2 HB3 hgb
      go_upto_region 9 with (go_at_call 30; (with_reducible refine (spoil_any w4 W.heap.size (some ⟨g, 0, none⟩) n (n + 2) cap _ HO4.out (Nat.le_add_right _ _) hn263).mono ?_); rintro e w5 ⟨rfl, hc5⟩; have HC5 : Hid (Chg [g] w4 w5) := hc5; clear hc5)
      have HP5 : Hid (PairAt W.heap.size w5 t r) := HPV.out.chg HC5.out
      have HB5 : Hid (Below W.heap.size W w5) := HB4.out.trans (HC5.out.below (fun x hx => by simp at hx; subst hx; exact HGB.out) HB4.out.size)
      go_wp2_with (first
        | (go_at_call 22; (with_reducible refine (pair_same W.heap.size w5 t r HP5.out).mono ?_); rintro e w6 ⟨rfl, hb6⟩; have HP6 := Lib.hid (HP5.out.below hb6); have HB6 : Hid (Below W.heap.size W w6) := bmore HB5.out (Nat.le_refl _) hb6; clear hb6)
        | (go_at_call 31; (with_reducible refine (play_any W.heap.size w6 t r E l cl L HP6.out (HD.out.below HB6.out) HB6.out.size).mono ?_); rintro e w7 ⟨rfl, hb7⟩; have HB7 : Hid (Below W.heap.size W w7) := HB6.out.trans hb7; clear hb7)
        | (go_at_call 15; (with_reducible refine (known_any w7).mono ?_); rintro e w8 ⟨rfl, hb8⟩; have HB8 : Hid (Below W.heap.size W w8) := bmore HB7.out (Nat.le_refl _) hb8; clear hb8))
      go_ret
      exact ⟨rfl, HB8.out⟩
end Go.Proofs.Ytpfceochplghlaa
