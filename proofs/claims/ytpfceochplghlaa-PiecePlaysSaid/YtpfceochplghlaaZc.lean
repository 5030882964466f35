/- The walk of PieceTyped. -/
import Derived.Test.YtpfceochplghlaaZb
import Derived.Test.YtpfceochplghlaaT
namespace Go.Proofs.Ytpfceochplghlaa
open Go.RowKit
attribute [local go_sem ↓] Go.wp_at_zero Go.wp_at_succ

theorem Rds.blk_lt {w : World} {B z n : Nat} {A : Option Addr} {xs : List Value} (h : Rds w B z A n xs) (hn : 0 < n) (hz : 0 < z) : ∀ g ∈ blk A, g < B := by
  obtain ⟨ad, rfl, hb, _⟩ := h.at_all hn hz
  intro g hg
  simp [blk] at hg
  omega
theorem bmore {N : Nat} {a b c : World} (h : Below N a b) (hN : N ≤ a.heap.size) (k : Below b.heap.size b c) : Below N a c := h.trans (k.mono (Nat.le_trans hN h.size))
theorem same_self (A B : Option Addr) (n c m d : Nat) (xs : List Int) (K : Nat) (w : World) (hx : Rds w K 1 A n (xs.map (Value.int .i32))) (hy : Rds w K 1 B m (xs.map (Value.int .i32))) (hn : n ≤ 140737488355328) :
    Calls Try.prog 25 #[.slice A n c, .slice B m d] w fun e w' => e = .returned (.bool true) ∧ Below K w w' := by
  refine (same_any A B n c m d xs xs K w hx hy hn).mono ?_
  rintro e w' ⟨rfl, k, rfl⟩
  exact ⟨by simp, below_drewN (Below.refl _ _) k⟩

set_option maxRecDepth 100000 in
set_option maxHeartbeats 2000000 in
theorem typed_walk (W : World) (A A' : Option Addr) (n c m d : Nat) (xs ys : List Int) (k : Int) (hx : Rds W W.heap.size 1 A n (xs.map (Value.int .i32))) (hc : n ≤ c) (hy : Rds W W.heap.size 1 A' m (ys.map (Value.int .i32))) (hd : m ≤ d) :
    Calls Try.prog 7 #[.slice A n c, .slice A' m d, .int .i64 k] W fun e w' => e = .returned (.bool true) ∧ Below W.heap.size W w' := by
  have HC1 := cut_300 A n c hc
  have HC2 := cut_100 A' m d hd
  have HX := Lib.hid (hx.front_ints (m := min n 300) (by omega))
  have HY := Lib.hid (hy.front_ints (m := min m 100) (by omega))
  have hn3 : min n 300 ≤ 300 := by omega
  have hm1 : min m 100 ≤ 100 := by omega
  obtain ⟨n', en⟩ : ∃ n', min n 300 = n' := ⟨_, rfl⟩
  obtain ⟨m', em⟩ : ∃ m', min m 100 = m' := ⟨_, rfl⟩
  rw [en] at HC1 HX hn3
  rw [em] at HC2 HY hm1
  obtain ⟨S, hS⟩ : ∃ S, cleanL (xs.take n') = S := ⟨_, rfl⟩
  obtain ⟨U, hU⟩ : ∃ U, cleanL (ys.take m') = U := ⟨_, rfl⟩
  have HMS : Hid (mayB S = true) := by rw [← hS]; exact may_clean _
  have HMU : Hid (mayB U = true) := by rw [← hU]; exact may_clean _
  have HSL : Hid (S.length = n') := by have := HX.out.int_len; rw [← hS]; show (cleanL _).length = n'; rw [cleanL_len]; exact this
  have HUL : Hid (U.length = m') := by have := HY.out.int_len; rw [← hU]; show (cleanL _).length = m'; rw [cleanL_len]; exact this
  have HES := Lib.hid hS
  have HEU := Lib.hid hU
  obtain ⟨a, hidx⟩ : ∃ a, idx k (n' + 1) = a := ⟨_, rfl⟩
  have HA : Hid (a ≤ n') := by have := idx_lt k (n' + 1) (by omega); rw [hidx] at this; show a ≤ n'; omega
  have HIX : ∀ w, Calls Try.prog 11 #[.int .i64 k, .int .i64 ((n' : Int) + 1)] w fun e w' => e = .returned (.int .i64 a) ∧ w = w' := by
    intro w
    have h := index_succ k n' (by omega) w
    rw [hidx] at h
    exact h
  clear hx hy hc hd en em hS hU hidx
  go_enter Try.func7, Try.ntmps7
  go_upto_region 6 with (first
    | (go_at_call 17; (with_reducible refine (HC1 _).mono ?_); rintro e w' ⟨rfl, rfl⟩)
    | (go_at_call 16; (with_reducible refine (clean_any W A n' c (xs.take n') HX.out (by omega)).mono ?_); rintro e w1 ⟨v1, rfl, hown1, hb1⟩; obtain ⟨A1, c1, rfl, _, _⟩ := own_form hown1; have HO1 : Hid (w1.ownsRow W.heap.size 21 1 (.slice A1 n' c1) n' (S.map (Value.int .i32))) := (by rw [← HES.out]; exact hown1); have HB1 := Lib.hid hb1; clear hown1 hb1)
    | (go_at_call 17; (with_reducible refine (HC2 _).mono ?_); rintro e w' ⟨rfl, rfl⟩)
    | (go_at_call 16; (with_reducible refine (clean_any w1 A' m' d (ys.take m') ((HY.out.below HB1.out).more HB1.out.size) (by omega)).mono ?_); rintro e w2 ⟨v2, rfl, hown2, hb2⟩; obtain ⟨A2, c2, rfl, _, _⟩ := own_form hown2; have HO2 : Hid (w2.ownsRow w1.heap.size 21 1 (.slice A2 m' c2) m' (U.map (Value.int .i32))) := (by rw [← HEU.out]; exact hown2); have HB2 := Lib.hid hb2; clear hown2 hb2)
    | (go_at_call 10; (with_reducible refine (new_typed w2 A1 n' c1 a S HMS (by omega) (((Rds.of_own HO1.out).below HB2.out).more HB2.out.size)).mono ?_); rintro e w3 ⟨t, rfl, htp, hb3⟩; have HT3 := Lib.hid htp; have HB3 := Lib.hid hb3; clear htp hb3)
    | (go_at_call 11; (with_reducible refine (HIX _).mono ?_); rintro e w' ⟨rfl, rfl⟩))
  have HSN := Lib.hid HB3.out.size
  go_wp2
  go_loopw [38] (fun x wr => ∃ (i : Nat) (w0 : World), w0 = wr ∧ i ≤ m' ∧ x = .int .i64 i ∧ Hid (TypAt w2.heap.size wr t S a (U.take i)) ∧ Hid (Below w2.heap.size w3 wr)) (fun x _ => m' - (intOf x).toNat)
  case atStart => exact ⟨0, _, rfl, Nat.zero_le _, rfl, HT3.out, Below.refl _ _⟩
  case round =>
    obtain ⟨i, wr, rfl, hi, rfl, HT, HB⟩ := hrel
    by_cases hlt : i < m'
    · obtain ⟨A5, hs5, hr5⟩ := one_at HO2.out hlt
      have HB23 : Hid (Below w2.heap.size w2 wr) := HB3.out.trans HB.out
      have HR5 := Lib.hid (hr5.below HB23.out)
      have HA5 := Lib.hid (hr5.blk_lt (by omega) (by omega))
      have HSG : Hid (sgB (U.getD i 0) = true) := by
        have h1 := HMU.out
        have h2 := HUL.out
        simp only [mayB, List.all_eq_true] at h1
        have e : U.getD i 0 = U[i]'(by omega) := by simp [List.getD, show i < U.length by omega]
        show sgB _ = true
        rw [e]
        exact h1 _ (List.getElem_mem _)
      have HIL : Hid (i = (U.take i).length) := by show i = _; rw [List.length_take]; have := HUL.out; omega
      have HTK : Hid (U.take (i + 1) = U.take i ++ [U.getD i 0]) := by
        have h2 := HUL.out
        show _ = _
        rw [List.take_succ_eq_append_getElem (by omega)]
        simp [List.getD, show i < U.length by omega]
      have hJ1 : (0 : Int) ≤ (i : Int) ∧ (i : Int) < (m' : Int) := by omega
      obtain ⟨hJ1a, hJ1b⟩ := hJ1
      have hwai : IntKind.i64.wrap ((a : Int) + (i : Int)) = (a : Int) + (i : Int) := IntWalk.i64_in _ (by have := HA.out; omega)
      have HSN2 : Hid (w2.heap.size ≤ wr.heap.size) := Nat.le_trans HSN.out HB.out.size
      clear hr5
      obtain ⟨x, hx⟩ : ∃ x, U.getD i 0 = x := ⟨_, rfl⟩
      rw [hx] at HR5 HSG HTK
      clear hx
      go_wp2_with (go_at_call 12; (with_reducible refine (typed_step w2.heap.size wr t a i _ A5 S (U.take i) x HT.out HSN2.out (by have := HSL.out; omega) (by have := HSL.out; have := HA.out; omega) HIL.out (by omega) HSG.out HR5.out HA5.out).mono ?_); rintro e w5 ⟨rfl, htp, hb5⟩; have HT5 := Lib.hid htp; have HB5 := Lib.hid hb5; clear htp hb5)
      go_roundw
      case rel =>
        refine ⟨i + 1, _, rfl, by omega, by go_num, ?_, HB.out.trans HB5.out⟩
        show Hid _
        rw [HTK.out]
        exact HT5.out
      case measure => simp [intOf]; omega
    · have him : i = m' := by omega
      have HTM : Hid (TypAt w2.heap.size wr t S a U) := by
        have h1 := HT.out
        rw [List.take_of_length_le (by have := HUL.out; omega)] at h1
        exact h1
      clear HT
      subst him
      have HW4 : Hid (Below w2.heap.size w2 wr) := HB3.out.trans HB.out
      clear HB HB3 HT3 hi hlt
      go_upto_region 14 with (go_at_call 27; (with_reducible refine (typ_pieces w2.heap.size wr t a S U HTM.out).mono ?_); rintro e w6 ⟨⟨A6, n6, c6, rfl, hown6, hn6⟩, hb6⟩; have HO6 := Lib.hid hown6; have HB6 := Lib.hid hb6; clear hown6 hb6)
      have HL6 : Hid ((typT S a U).ps.length = n6) := by have h1 := HO6.out.1; rw [pcs_len] at h1; show _ = _; omega
      have HPL : Hid (plen (typT S a U).ps ≤ 400) := by have h1 := typ_len S a U (by have := HA.out; have := HSL.out; omega); have := HSL.out; have := HUL.out; show _ ≤ _; omega
      go_loopw [56, 10, 11] (fun x q o wx => ∃ (j c1 c2 : Nat) (w0 : World), w0 = wx ∧ j ≤ n6 ∧ x = .int .i64 j ∧ q = .int .i64 c1 ∧ o = .int .i64 c2 ∧ c1 ≤ j ∧ Hid (cm ((typT S a U).ps.take j) (0, 0) = (c1, c2)) ∧ Hid (Below w6.heap.size w6 wx)) (fun x _ _ _ => n6 - (intOf x).toNat)
      case atStart => exact ⟨0, 0, 0, _, rfl, Nat.zero_le _, rfl, rfl, rfl, Nat.zero_le _, rfl, Below.refl _ _⟩
      case round =>
        obtain ⟨j, q1, q2, wx, rfl, hj, rfl, rfl, rfl, hq1, HCM, HBx⟩ := hrel
        by_cases hlt : j < n6
        · obtain ⟨g, p, rfl, hg, hpm, HP, y0, y1, y2⟩ := prow_at (own_below HO6.out HBx.out (fun k hk => (HO6.out.lt k hk).2)) hlt
          obtain ⟨pa, pf, pl⟩ := p
          simp only at y0 y1 y2
          have hJ1 : (0 : Int) ≤ (j : Int) ∧ (j : Int) < (n6 : Int) := by omega
          obtain ⟨hJ1a, hJ1b⟩ := hJ1
          have HCN := Lib.hid (cm_take (by rw [HL6.out]; exact hlt) HP.out)
          cases pa with
          | true =>
            go_wp2
            go_roundw
            case rel =>
              refine ⟨j + 1, q1 + 1, pl, _, rfl, by omega, by go_num, by go_num, rfl, by omega, ?_, HBx.out.alloc HBx.out.size _⟩
              show Hid _
              rw [HCN.out, HCM.out]
              rfl
            case measure => simp [intOf]; omega
          | false =>
            go_wp2
            go_roundw
            case rel =>
              refine ⟨j + 1, q1, q2, _, rfl, by omega, by go_num, rfl, rfl, by omega, ?_, HBx.out.alloc HBx.out.size _⟩
              show Hid _
              rw [HCN.out, HCM.out]
              rfl
            case measure => simp [intOf]; omega
        · have HCE : Hid ((q1, q2) = if i = 0 then (0, 0) else (1, i)) := by
            have h1 := HCM.out
            rw [List.take_of_length_le (by have := HL6.out; omega), cm_typ, HUL.out] at h1
            exact h1.symm
          clear HCM
          have HTX : Hid (TypAt w2.heap.size wx t S a U) := (HTM.out.below HB6.out).below HBx.out
          have HNX : Hid (w2.heap.size ≤ wx.heap.size) := Nat.le_trans HW4.out.size (Nat.le_trans HB6.out.size HBx.out.size)
          have HWX : Hid (Below w2.heap.size w2 wx) := (HW4.out.trans (HB6.out.mono HW4.out.size)).trans (HBx.out.mono (Nat.le_trans HW4.out.size HB6.out.size))
          have HWZ : Hid (∀ w, Below w2.heap.size wx w → Below W.heap.size W w) := fun w h => ((HB1.out.trans (HB2.out.mono HB1.out.size)).trans ((HWX.out.trans h).mono (Nat.le_trans HB1.out.size HB2.out.size)))
          have HW9 : Hid (∀ w9 {w7 w8 : World}, Below w2.heap.size wx w7 → Below w7.heap.size w7 w8 → Below w8.heap.size w8 w9 → Below w2.heap.size w2 w9) := fun w9 {w7 w8} h1 h2 h3 => (HWX.out.trans h1).trans ((h2.trans (h3.mono h2.size)).mono (Nat.le_trans HNX.out h1.size))
          have HO9 : Hid (∀ w9, Below w2.heap.size w2 w9 → Rds w9 w9.heap.size 1 A1 n' (S.map (Value.int .i32))) := fun w9 h => (((Rds.of_own HO1.out).below HB2.out).more HB2.out.size |>.below h).more h.size
          clear HW4 HB6 HBx HTM HO6 HL6 HPL
          by_cases hi0 : i = 0
          · have hq : q1 = 0 := by have := HCE.out; rw [if_pos hi0] at this; injection this
            have hi0' : ¬ (0 : Int) < (i : Int) := by omega
            have hi0'' : ((i : Int) == 0) = true := by simp; omega
            subst hq
            clear HCE hi0
            go_wp2_with (first
            | (go_at_call 12; (with_reducible refine (typed_back w2.heap.size wx t a i S U HTX.out HNX.out (by have := HSL.out; omega) (by have := HSL.out; have := HA.out; omega) HUL.out.symm (by omega)).mono ?_); rintro e w7 ⟨rfl, hbk, hb7⟩; have HBK7 := Lib.hid hbk; have HB7 := Lib.hid hb7; clear hbk hb7)
            | (go_at_call 27; (with_reducible refine (back_pieces w7 t S HBK7.out).mono ?_); rintro e w8 ⟨⟨A8, n8, c8, rfl, hn8⟩, hb8⟩; have hn8' : (n8 : Int) ≤ 2 := (by omega); have HB8 := Lib.hid hb8; clear hb8)
            | (go_at_call 26; (with_reducible refine (back_get w8 t S (HBK7.out.below HB8.out)).mono ?_); rintro e w9 ⟨⟨A9, n9, c9, rfl, hr9, hn9⟩, hb9⟩; have HR9 := Lib.hid hr9; have HB9 := Lib.hid hb9; have HRS : Hid (Rds w9 w9.heap.size 1 A1 n' (S.map (Value.int .i32))) := (HO9.out w9 (HW9.out w9 HB7.out HB8.out HB9.out)); clear hb9 hr9)
            | (go_at_call 25; (with_reducible refine (same_self A9 A1 n9 c9 n' c1 S w9.heap.size w9 HR9.out HRS.out (by omega)).mono ?_); rintro e w10 ⟨rfl, hb10⟩; have HB10 := Lib.hid hb10; clear hb10)
            | (go_at_call 15; (with_reducible refine (known_any w10).mono ?_); rintro e w11 ⟨rfl, hb11⟩; have HB11 := Lib.hid hb11; clear hb11))
            go_ret
            exact ⟨rfl, HWZ.out _ (bmore (bmore (bmore (bmore HB7.out HNX.out HB8.out) HNX.out HB9.out) HNX.out HB10.out) HNX.out HB11.out)⟩
          · have hq : q1 = 1 ∧ q2 = i := by have := HCE.out; rw [if_neg hi0] at this; injection this; exact ⟨by assumption, by assumption⟩
            obtain ⟨hqa, hqb⟩ := hq
            have hqb := hqb.symm
            have hi0' : (0 : Int) < (i : Int) := by omega
            subst hqa
            subst hqb
            clear HCE
            go_wp2_with (first
            | (go_at_call 12; (with_reducible refine (typed_back w2.heap.size wx t a i S U HTX.out HNX.out (by have := HSL.out; omega) (by have := HSL.out; have := HA.out; omega) HUL.out.symm (by omega)).mono ?_); rintro e w7 ⟨rfl, hbk, hb7⟩; have HBK7 := Lib.hid hbk; have HB7 := Lib.hid hb7; clear hbk hb7)
            | (go_at_call 27; (with_reducible refine (back_pieces w7 t S HBK7.out).mono ?_); rintro e w8 ⟨⟨A8, n8, c8, rfl, hn8⟩, hb8⟩; have hn8' : (n8 : Int) ≤ 2 := (by omega); have HB8 := Lib.hid hb8; clear hb8)
            | (go_at_call 26; (with_reducible refine (back_get w8 t S (HBK7.out.below HB8.out)).mono ?_); rintro e w9 ⟨⟨A9, n9, c9, rfl, hr9, hn9⟩, hb9⟩; have HR9 := Lib.hid hr9; have HB9 := Lib.hid hb9; have HRS : Hid (Rds w9 w9.heap.size 1 A1 n' (S.map (Value.int .i32))) := (HO9.out w9 (HW9.out w9 HB7.out HB8.out HB9.out)); clear hb9 hr9)
            | (go_at_call 25; (with_reducible refine (same_self A9 A1 n9 c9 n' c1 S w9.heap.size w9 HR9.out HRS.out (by omega)).mono ?_); rintro e w10 ⟨rfl, hb10⟩; have HB10 := Lib.hid hb10; clear hb10)
            | (go_at_call 15; (with_reducible refine (known_any w10).mono ?_); rintro e w11 ⟨rfl, hb11⟩; have HB11 := Lib.hid hb11; clear hb11))
            go_ret
            exact ⟨rfl, HWZ.out _ (bmore (bmore (bmore (bmore HB7.out HNX.out HB8.out) HNX.out HB9.out) HNX.out HB10.out) HNX.out HB11.out)⟩
end Go.Proofs.Ytpfceochplghlaa
