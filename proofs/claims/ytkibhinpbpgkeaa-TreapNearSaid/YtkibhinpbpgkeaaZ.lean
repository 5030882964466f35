/- The walk of TreapOne. -/
import Derived.Test.YtkibhinpbpgkeaaY
import Derived.Deep.RegionHeld3
import Derived.Deep.DrawnRows
namespace Go.Proofs.Ytkibhinpbpgkeaa
open Go.RowKit Go.ChangeMaps
attribute [local go_sem ↓] Go.wp_at_zero Go.wp_at_succ

theorem two_add_v (W : World) (B s b s' b' : Nat) (K K' : List Mk) (m : Mk) (h : Two W B s b K s' b' K') (hn : Hid (addN K m = 0)) : Calls Try.prog 12 #[.pointer (some ⟨s, 0, none⟩), .agg #[.int .i64 m.id, .int .i64 m.fr, .int .i64 m.to, .int .i64 m.pr]] W
    fun e w' => e = .returned (.int .i64 0) ∧ Two w' B s b (ins K m) s' b' K' ∧ Below B W w' := two_add m h hn
theorem RdM.more {W : World} {B B' n : Nat} {A : Option Addr} {L : List Mk} (h : RdM W B A n L) (hB : B ≤ B') : RdM W B' A n L :=
  ⟨h.1, fun k hk => by
    obtain ⟨ad, e, hb, hc⟩ := h.2 k hk
    exact ⟨ad, e, by omega, hc⟩⟩
theorem two_rem_v (W : World) (B s b s' b' : Nat) (K K' : List Mk) (m : Mk) (i : Int) (h : Two W B s b K s' b' K') (hm : Hid (m ∈ K)) (hi : Hid (m.id = i)) : Calls Try.prog 13 #[.pointer (some ⟨s, 0, none⟩), .int .i64 i] W
    fun e w' => e = .returned (.int .i64 0) ∧ Two w' B s b (del K i) s' b' K' ∧ Below B W w' := by
  have h1 := hi.out
  subst h1
  exact two_rem m h hm
/-- The relation of the first loop. -/
def One1 (M : List Mk) (c k : Nat) (K K' : List Mk) : Prop := K.Perm (M.take k) ∧ K'.Perm ((othL M c).take k ++ (rotL M c).take k)
def One2 (M : List Mk) (c k : Nat) (K' : List Mk) : Prop := K'.Perm ((othL M c).drop k ++ rotL M c)

theorem index_v (k : Int) (n v : Nat) (hv : Hid (idx k n = v)) (hn : 0 < n) (hn2 : n ≤ 9223372036854775807) (w : World) :
    Calls Try.prog 11 #[.int .i64 k, .int .i64 n] w fun e w' => e = .returned (.int .i64 v) ∧ w = w' := by
  have h := hv.out
  subst h
  exact index_any k n hn hn2 w

set_option maxRecDepth 100000 in
set_option maxHeartbeats 4000000 in
theorem one_any (W : World) (A : Option Addr) (n c : Nat) (L : List Mk) (by0 : Int) (hL : RdM W W.heap.size A n L) (hn : n ≤ 9223372036854775807) :
    Calls Try.prog 3 #[.slice A n c, .int .i64 by0] W fun e w' => e = .returned (.bool true) ∧ Below W.heap.size W w' := by
  go_enter Try.func3, Try.ntmps3
  go_wp2_with (first
    | (go_at_call 9; (with_reducible refine (marks_any W A n c L hL hn).mono ?_); rintro e w1 ⟨M, A1, p1, hM, rfl, ho1, hb1⟩)
    | (go_at_call 10; (with_reducible refine (new_k w1).mono ?_); rintro e w2 ⟨rfl, hk2, hb2⟩)
    | (go_at_call 10; (with_reducible refine (new_two w2 w1.heap.size _ _ hk2).mono ?_); rintro e w3 ⟨rfl, hk3, hb3⟩))
  have HB1 := Lib.hid hb1
  have HB2 := Lib.hid (hb2.trans hb3)
  have HR := Lib.hid (RdM.of_own ho1 (hb2.trans hb3))
  have HM := Lib.hid hM
  have hlen := hM.1
  obtain ⟨q, hq⟩ : ∃ q, M.length = q := ⟨_, rfl⟩
  obtain ⟨B, hB⟩ : ∃ B, w1.heap.size = B := ⟨_, rfl⟩
  obtain ⟨B', hB'⟩ : ∃ B', w2.heap.size = B' := ⟨_, rfl⟩
  have hBz : W.heap.size ≤ B := by have := hb1.size; omega
  rw [hq] at hlen HR ⊢
  rw [hB] at HB2 hk3 HR ⊢
  rw [hB'] at hk3 ⊢
  have HQ := Lib.hid hq
  clear hb1 hb2 hb3 ho1 hM hL hB hq hB' hk2
  obtain ⟨cc, hcc⟩ : ∃ cc, idx by0 q = cc := ⟨_, rfl⟩
  have HCC := Lib.hid hcc
  clear hcc
  go_wp2
  go_loopw [26] (fun i wr => ∃ (k : Nat) (w0 : World) (K K' : List Mk), w0 = wr ∧ k ≤ q ∧ i = .int .i64 k ∧ Hid (One1 M cc k K K') ∧ Two wr B (B + 1) B K (B' + 1) B' K' ∧ Below B w3 wr) (fun i _ => q - (intOf i).toNat)
  case atStart => exact ⟨0, _, [], [], rfl, Nat.zero_le _, rfl, ⟨by simp, by simp⟩, hk3, Below.refl _ _⟩
  case round =>
    obtain ⟨k, wr, K, K', rfl, hk, rfl, HK, hS, hbx⟩ := hrel
    by_cases hlt : k < q
    · have hq0 : 0 < q := by omega
      have hcl : cc < q := by rw [← HCC.out]; exact idx_lt _ _ hq0
      obtain ⟨r, hr⟩ : ∃ r, (k + cc) % q = r := ⟨_, rfl⟩
      have hrq : r < q := by rw [← hr]; exact Nat.mod_lt _ hq0
      obtain ⟨z, hz⟩ : ∃ z, q - 1 - r = z := ⟨_, rfl⟩
      have hzq : z < q := by omega
      obtain ⟨ad, m, rfl, hBa, Hm, e0, e1, e2, e3⟩ := (HR.out.below hbx).at_ hlt
      obtain ⟨ad2, m2, hA2, hBa2, Hm2, x0, x1, x2, x3⟩ := (HR.out.below hbx).at_ hrq
      have hA2' : ad = ad2 := by injection hA2
      subst hA2'
      obtain ⟨ad3, m3, hA3, hBa3, Hm3, y0, y1, y2, y3⟩ := (HR.out.below hbx).at_ hzq
      have hA3' : ad = ad3 := by injection hA3
      subst hA3'
      clear hA2 hA3
      have hI1 : ((k : Int) + (cc : Int)) % (q : Int) = (r : Int) := by rw [← hr]; simp
      have hI2 : ((k : Int) + (cc : Int)).tmod (q : Int) = (r : Int) := by rw [Int.tmod_eq_emod_of_nonneg (by omega)]; exact hI1
      have hI3 : (q : Int) - 1 - (r : Int) = (z : Int) := by omega
      have hI4 : IntKind.i64.wrap ((q : Int) - 1 - (r : Int)) = (z : Int) := by rw [hI3]; exact IntWalk.i64_in _ (by omega)
      have hI5 : IntKind.i64.wrap (100 + (k : Int)) = 100 + (k : Int) := IntWalk.i64_in _ (by omega)
      have hI6 : IntKind.i64.wrap ((q : Int) - 1) = (q : Int) - 1 := IntWalk.i64_in _ (by omega)
      have hI7 : IntKind.i64.wrap (z : Int) = (z : Int) := IntWalk.i64_in _ (by omega)
      have hJ1 : (0 : Int) ≤ (k : Int) ∧ (k : Int) < (q : Int) := by omega
      have hJ2 : (0 : Int) ≤ (r : Int) ∧ (r : Int) < (q : Int) := by omega
      have hJ3 : (0 : Int) ≤ (z : Int) ∧ (z : Int) < (q : Int) := by omega
      have hJ4 : (0 : Int) ≤ (q : Int) - 1 - (r : Int) ∧ (q : Int) - 1 - (r : Int) < (q : Int) ∧ ((q : Int) - 1 - (r : Int)).toNat = z := by omega
      obtain ⟨hJ1a, hJ1b⟩ := hJ1
      obtain ⟨hJ2a, hJ2b⟩ := hJ2
      obtain ⟨hJ3a, hJ3b⟩ := hJ3
      obtain ⟨hJ4a, hJ4b, hJ4c⟩ := hJ4
      have HRR := Lib.hid hr
      have HZZ := Lib.hid hz
      have HBX := Lib.hid hbx
      clear hr hz hbx
      have HC : Hid (∀ w', Below B wr w' → (w'.cell? (ad.add (k * 4)) = some (.int .i64 m.id) ∧ w'.cell? ⟨(ad.add (k * 4)).block, (ad.add (k * 4)).off + 1, none⟩ = some (.int .i64 m.fr) ∧ w'.cell? ⟨(ad.add (k * 4)).block, (ad.add (k * 4)).off + 2, none⟩ = some (.int .i64 m.to) ∧ w'.cell? ⟨(ad.add (k * 4)).block, (ad.add (k * 4)).off + 3, none⟩ = some (.int .i64 m.pr) ∧ w'.cell? ⟨(ad.add (r * 4)).block, (ad.add (r * 4)).off + 3, none⟩ = some (.int .i64 m2.pr) ∧ w'.cell? (ad.add (z * 4)) = some (.int .i64 m3.id) ∧ w'.cell? ⟨(ad.add (z * 4)).block, (ad.add (z * 4)).off + 1, none⟩ = some (.int .i64 m3.fr) ∧ w'.cell? ⟨(ad.add (z * 4)).block, (ad.add (z * 4)).off + 2, none⟩ = some (.int .i64 m3.to) ∧ w'.cell? ⟨(ad.add (z * 4)).block, (ad.add (z * 4)).off + 3, none⟩ = some (.int .i64 m3.pr))) := fun w' hb => ⟨(hb.cell (p := ad.add (k * 4)) hBa).trans e0, (hb.cell (p := ⟨(ad.add (k * 4)).block, (ad.add (k * 4)).off + 1, none⟩) hBa).trans e1, (hb.cell (p := ⟨(ad.add (k * 4)).block, (ad.add (k * 4)).off + 2, none⟩) hBa).trans e2, (hb.cell (p := ⟨(ad.add (k * 4)).block, (ad.add (k * 4)).off + 3, none⟩) hBa).trans e3, (hb.cell (p := ⟨(ad.add (r * 4)).block, (ad.add (r * 4)).off + 3, none⟩) hBa2).trans x3, (hb.cell (p := ad.add (z * 4)) hBa3).trans y0, (hb.cell (p := ⟨(ad.add (z * 4)).block, (ad.add (z * 4)).off + 1, none⟩) hBa3).trans y1, (hb.cell (p := ⟨(ad.add (z * 4)).block, (ad.add (z * 4)).off + 2, none⟩) hBa3).trans y2, (hb.cell (p := ⟨(ad.add (z * 4)).block, (ad.add (z * 4)).off + 3, none⟩) hBa3).trans y3⟩
      have hkM : k < M.length := by rw [HQ.out]; exact hlt
      have ho : oth M cc k = ⟨100 + (k : Int), m.to, 60, m2.pr⟩ := by unfold oth; rw [Hm.out, HQ.out, HRR.out, Hm2.out]
      have h3m : (rotL M cc).getD k ⟨0, 0, 0, 0⟩ = m3 := by rw [rot_at M cc k (by rw [HQ.out]; exact hcl) hkM, HQ.out, HRR.out, HZZ.out]; exact Hm3.out
      have ha1 := add_next HM.out hkM HK.out.1 Hm.out
      have ha2 := add_oth HM.out hkM HK.out.2
      have ha3 := add_rot HM.out hkM ha2.2 h3m
      rw [ho] at ha2 ha3
      have hL1 : addL K m = ins K m := by simp [addL, ha1.1]
      rw [hL1] at ha1
      have HA1 : Hid (addN K m = 0) := ha1.1
      have HA2 : Hid (addN K' ⟨100 + (k : Int), m.to, 60, m2.pr⟩ = 0) := ha2.1
      have HA3 : Hid (addN (ins K' ⟨100 + (k : Int), m.to, 60, m2.pr⟩) m3 = 0) := ha3.1
      have HNX : Hid (One1 M cc (k + 1) (ins K m) (ins (ins K' ⟨100 + (k : Int), m.to, 60, m2.pr⟩) m3)) := ⟨ha1.2, ha3.2⟩
      have HS := Lib.hid hS
      clear hkM ho h3m ha1 ha2 ha3 hL1 hS
      go_wp2_with (go_at_call 11; (with_reducible refine (index_v by0 q cc HCC hq0 (by omega) _).mono ?_); rintro e w' ⟨rfl, rfl⟩)
      go_region_held3 (fun w' => (w'.cell? (ad.add (k * 4)) = some (.int .i64 m.id) ∧ w'.cell? ⟨(ad.add (k * 4)).block, (ad.add (k * 4)).off + 1, none⟩ = some (.int .i64 m.fr) ∧ w'.cell? ⟨(ad.add (k * 4)).block, (ad.add (k * 4)).off + 2, none⟩ = some (.int .i64 m.to) ∧ w'.cell? ⟨(ad.add (k * 4)).block, (ad.add (k * 4)).off + 3, none⟩ = some (.int .i64 m.pr) ∧ w'.cell? ⟨(ad.add (r * 4)).block, (ad.add (r * 4)).off + 3, none⟩ = some (.int .i64 m2.pr) ∧ w'.cell? (ad.add (z * 4)) = some (.int .i64 m3.id) ∧ w'.cell? ⟨(ad.add (z * 4)).block, (ad.add (z * 4)).off + 1, none⟩ = some (.int .i64 m3.fr) ∧ w'.cell? ⟨(ad.add (z * 4)).block, (ad.add (z * 4)).off + 2, none⟩ = some (.int .i64 m3.to) ∧ w'.cell? ⟨(ad.add (z * 4)).block, (ad.add (z * 4)).off + 3, none⟩ = some (.int .i64 m3.pr))) (first | exact HC.out _ HD3.out | exact HC.out _ HD2.out | exact HC.out _ HD1.out | exact HC.out _ ((Below.refl _ _).drew) | exact HC.out _ (Below.refl _ _))
        ((first
          | (go_at_call 12; (with_reducible refine (two_add_v _ B (B + 1) B (B' + 1) B' K K' m (HS.out.below (Below.drew (Below.refl _ _))) HA1).mono ?_); rintro e u1 ⟨rfl, hS1, hd1⟩; have HS1 := Lib.hid hS1; have HD1 : Hid (Below B wr u1) := ((Below.refl B wr).drew).trans hd1; clear hS1 hd1)
          | (go_at_call 12; (with_reducible refine (two_add_v _ B (B' + 1) B' (B + 1) B K' (ins K m) ⟨100 + (k : Int), m.to, 60, m2.pr⟩ HS1.out.symm HA2).mono ?_); rintro e u2 ⟨rfl, hS2, hd2⟩; have HS2 := Lib.hid hS2; have HD2 : Hid (Below B wr u2) := HD1.out.trans hd2; clear hS2 hd2)
          | (go_at_call 12; (with_reducible refine (two_add_v _ B (B' + 1) B' (B + 1) B (ins K' ⟨100 + (k : Int), m.to, 60, m2.pr⟩) (ins K m) m3 HS2.out HA3).mono ?_); rintro e u3 ⟨rfl, hS3, hd3⟩; have HS3 := Lib.hid hS3; have HD3 : Hid (Below B wr u3) := HD2.out.trans hd3; clear hS3 hd3)))
      all_goals go_wp2
      all_goals exact ⟨⟨k + 1, _, _, _, rfl, by omega, by go_num, HNX, HS3.out.symm, HBX.out.trans HD3.out⟩, by simp [intOf]; omega⟩
    · have hkq : k = q := by omega
      subst hkq
      have HKM : Hid (K.Perm M) := by
        have h := HK.out.1
        rw [← HQ.out, List.take_length] at h
        exact h
      have HK2 : Hid (One2 M cc 0 K') := by
        have h := HK.out.2
        rw [List.take_of_length_le (by simp [othL]; rw [HQ.out]; exact Nat.le_refl _), List.take_of_length_le (by rw [rot_len, HQ.out]; exact Nat.le_refl _)] at h
        rw [Hid, One2, List.drop_zero]
        exact h
      have HBX := Lib.hid hbx
      clear hbx HK
      go_wp2
      go_loopw [76] (fun i wx => ∃ (j : Nat) (w0 : World) (K' : List Mk), w0 = wx ∧ j ≤ k ∧ i = .int .i64 j ∧ Hid (One2 M cc j K') ∧ Two wx B (B + 1) B K (B' + 1) B' K' ∧ Below B wr wx) (fun i _ => k - (intOf i).toNat)
      case atStart => exact ⟨0, _, K', rfl, Nat.zero_le _, rfl, HK2, hS, Below.refl _ _⟩
      case round =>
        obtain ⟨j, wx, K2, rfl, hj, rfl, HK2, hS2, hbx⟩ := hrel
        by_cases hlt2 : j < k
        · have hjM : j < M.length := by rw [HQ.out]; exact hlt2
          have hre := rem_oth HM.out hjM HK2.out
          have HMM : Hid (oth M cc j ∈ K2) := hre.1
          have HID : Hid ((oth M cc j).id = 100 + (j : Int)) := rfl
          have HNX : Hid (One2 M cc (j + 1) (del K2 (100 + (j : Int)))) := hre.2
          have hI5 : IntKind.i64.wrap (100 + (j : Int)) = 100 + (j : Int) := IntWalk.i64_in _ (by omega)
          have HBX2 := Lib.hid hbx
          clear hre hjM hbx
          go_wp2_with (go_at_call 13; (with_reducible refine (two_rem_v _ B (B' + 1) B' (B + 1) B K2 K (oth M cc j) (100 + (j : Int)) hS2.symm HMM HID).mono ?_); rintro e u1 ⟨rfl, hS3, hd3⟩; have HS3 := Lib.hid hS3; have HD3 := Lib.hid hd3; clear hS3 hd3)
          go_roundw
          case rel => exact ⟨j + 1, _, _, rfl, by omega, by go_num, HNX, HS3.out.symm, HBX2.out.trans HD3.out⟩
          case measure => simp [intOf]; omega
        · have hjk : j = k := by omega
          subst hjk
          have hKK : K2 = K := by
            have h := HK2.out
            rw [One2, List.drop_of_length_le (by simp [othL]; rw [HQ.out]; exact Nat.le_refl _), List.nil_append] at h
            exact sorted_one hS2.symm.fst.srt hS2.fst.srt ((h.trans (rot_perm M cc)).trans HKM.out.symm)
          subst hKK
          have HBX2 := Lib.hid (HBX.out.trans hbx)
          clear hbx HK2 hS HBX
          go_wp2
          go_loopw [87] (fun i wy => ∃ (g : Nat) (w0 : World), w0 = wy ∧ g ≤ j ∧ i = .int .i64 g ∧ Below wx.heap.size wx wy) (fun i _ => j - (intOf i).toNat)
          case atStart => exact ⟨0, _, rfl, Nat.zero_le _, rfl, Below.refl _ _⟩
          case round =>
            obtain ⟨g, wy, rfl, hg, rfl, hby⟩ := hrel
            have HSY := Lib.hid (hS2.below hby)
            have HBY := Lib.hid hby
            have hzy := hby.size
            clear hby
            by_cases hlt3 : g < j
            · obtain ⟨v, HV⟩ : ∃ v : Int, Hid ((depN [] K2 (g : Int) : Int) = v) := ⟨_, rfl⟩
              go_wp2_with (first
                | (go_at_call 14; (with_reducible refine (depth_k wy B (B + 1) B K2 (g : Int) v HV HSY.out.fst).mono ?_); rintro e u1 ⟨rfl, hd1⟩; have HD1 := Lib.hid hd1; have hz1 := hd1.size; clear hd1)
                | (go_at_call 14; (with_reducible refine (depth_k u1 B (B' + 1) B' K2 (g : Int) v HV (HSY.out.below HD1.out).symm.fst).mono ?_); rintro e u2 ⟨rfl, hd2⟩; have HD2 := Lib.hid hd2; clear hd2))
              go_roundw
              case rel => exact ⟨g + 1, _, rfl, by omega, by go_num, HBY.out.trans ((HD1.out.trans (HD2.out.mono hz1)).mono hzy)⟩
              case measure => simp [intOf]; omega
            · have hKl := HSY.out.fst.len
              go_wp2_with (first
                | (go_at_call 16; (with_reducible refine (all_k wy B (B + 1) B K2 HSY.out.fst).mono ?_); rintro e u1 ⟨A5, p5, rfl, ho1, hd1⟩; have HO1 := Lib.hid ho1; have HD1 := Lib.hid hd1; have hz1 := hd1.size; clear hd1 ho1)
                | (go_at_call 16; (with_reducible refine (all_k u1 B (B' + 1) B' K2 (HSY.out.below HD1.out).symm.fst).mono ?_); rintro e u2 ⟨A6, p6, rfl, ho2, hd2⟩; have HO2 := Lib.hid ho2; have HD2 := Lib.hid hd2; have hz2 := hd2.size; clear hd2 ho2)
                | (go_at_call 15; (with_reducible refine (sameMarks_yes u2 A5 A6 _ _ K2 ((RdM.of_own HO1.out HD2.out).more hz2) (RdM.of_own HO2.out (Below.refl _ _)) (by omega)).mono ?_); rintro e u3 ⟨rfl, hd3⟩; have HD3 := Lib.hid hd3; have hz3 := hd3.size; clear hd3)
                | (go_at_call 17; (with_reducible refine (known_any u3).mono ?_); rintro e u4 ⟨rfl, hd4⟩; have HD4 := Lib.hid hd4; clear hd4))
              go_ret
              have hBB := HSY.out.fst.size
              exact ⟨rfl, HB1.out.trans ((HB2.out.trans (HBX2.out.trans ((HBY.out.trans ((HD1.out.trans ((HD2.out.trans ((HD3.out.trans (HD4.out.mono hz3)).mono hz2)).mono hz1)).mono hzy)).mono hS2.fst.size.2.2))).mono hBz)⟩
end Go.Proofs.Ytkibhinpbpgkeaa
