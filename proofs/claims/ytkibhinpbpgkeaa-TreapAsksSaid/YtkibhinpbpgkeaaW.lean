/- The walk of TreapAsks. -/
import Derived.Test.YtkibhinpbpgkeaaV
import Derived.Deep.DeepCutAuto
namespace Go.Proofs.Ytkibhinpbpgkeaa
open Go.RowKit Go.ChangeMaps

theorem filter_next (K : List Mk) (k : Nat) (hk : k < K.length) (p : Mk → Bool) (m : Mk) (hm : K.getD k ⟨0, 0, 0, 0⟩ = m) (hp : p m = true) :
    ((K.take k).filter p).length < (K.filter p).length ∧ ((K.filter p).map (·.id)).getD ((K.take k).filter p).length 0 = m.id ∧ ((K.take (k + 1)).filter p).length = ((K.take k).filter p).length + 1 := by
  have hs := split_at K k hk
  have e : K.filter p = (K.take k).filter p ++ m :: (K.drop (k + 1)).filter p := by
    conv => lhs; rw [hs, hm]
    simp [List.filter_append, hp]
  refine ⟨by rw [e]; simp, ?_, ?_⟩
  · rw [e]
    simp [List.getD]
  · rw [take_filter K k hk p m hm, if_pos hp]
    simp
theorem filter_same (K : List Mk) (k : Nat) (hk : k < K.length) (p : Mk → Bool) (m : Mk) (hm : K.getD k ⟨0, 0, 0, 0⟩ = m) (hp : p m = false) : ((K.take (k + 1)).filter p).length = ((K.take k).filter p).length := by
  rw [take_filter K k hk p m hm, if_neg (by rw [hp]; simp)]
  simp
theorem ahead_v (a b : Mk) (v : Bool) (hv : Hid (lt a b = v)) (w : World) : Calls Try.prog 23 #[.agg #[.int .i64 a.id, .int .i64 a.fr, .int .i64 a.to, .int .i64 a.pr], .agg #[.int .i64 b.id, .int .i64 b.fr, .int .i64 b.to, .int .i64 b.pr]] w
    fun e w' => e = .returned (.bool v) ∧ Below w.heap.size w w' := by
  have h := hv.out; subst h; exact ahead_any a b w
theorem sorted_next {K : List Mk} (h : K.Pairwise fun a b => lt a b = true) {j : Nat} (hj : j + 1 < K.length) : lt (K.getD j ⟨0, 0, 0, 0⟩) (K.getD (j + 1) ⟨0, 0, 0, 0⟩) = true := by
  have e1 : K.getD j ⟨0, 0, 0, 0⟩ = K[j] := by simp [List.getD, show j < K.length by omega]
  have e2 : K.getD (j + 1) ⟨0, 0, 0, 0⟩ = K[j + 1] := by simp [List.getD, hj]
  rw [e1, e2]
  exact List.pairwise_iff_getElem.1 h j (j + 1) (by omega) hj (by omega)

set_option maxRecDepth 100000 in
set_option maxHeartbeats 20000000 in
theorem asks_any (W : World) (A : Option Addr) (n c : Nat) (L : List Mk) (a b : Int) (hL : RdM W W.heap.size A n L) (hn : n ≤ 9223372036854775807) :
    Calls Try.prog 6 #[.slice A n c, .int .i64 a, .int .i64 b] W fun e w' => e = .returned (.bool true) ∧ Below W.heap.size W w' := by
  obtain ⟨x, hx⟩ : ∃ v, bits BinOp.and IntKind.i64 a 63 = v := ⟨_, rfl⟩
  obtain ⟨y, hy⟩ : ∃ v, bits BinOp.and IntKind.i64 b 63 = v := ⟨_, rfl⟩
  go_enter Try.func6, Try.ntmps6
  go_wp2_with (first
    | (go_at_call 9; (with_reducible refine (marks_any W A n c L hL hn).mono ?_); rintro e w1 ⟨M, A1, p1, hM, rfl, ho1, hb1⟩)
    | (go_at_call 10; (with_reducible refine (new_k _).mono ?_); rintro e w2 ⟨rfl, hk2, hb2⟩))
  clear hx hy
  have HB1 := Lib.hid hb1
  have HB2 := Lib.hid hb2
  have HR := Lib.hid (RdM.of_own ho1 hb2)
  have HM := Lib.hid hM
  have hlen := hM.1
  obtain ⟨q, hq⟩ : ∃ q, M.length = q := ⟨_, rfl⟩
  obtain ⟨B, hB⟩ : ∃ B, w1.heap.size = B := ⟨_, rfl⟩
  have hBz : W.heap.size ≤ B := by have := hb1.size; omega
  rw [hq] at hlen HR ⊢
  rw [hB] at HB2 hk2 HR ⊢
  have HQ := Lib.hid hq
  clear hb1 hb2 ho1 hM hL hB hq
  go_wp2
  go_loopw [27] (fun i wr => ∃ (k : Nat) (w0 : World) (K : List Mk), w0 = wr ∧ k ≤ q ∧ i = .int .i64 k ∧ Hid (K.Perm (M.take k)) ∧ SetK wr B (B + 1) B K ∧ Below B w2 wr) (fun i _ => q - (intOf i).toNat)
  case atStart => exact ⟨0, _, [], rfl, Nat.zero_le _, rfl, (by simp [Hid]), hk2, Below.refl _ _⟩
  case round =>
    obtain ⟨k, wr, K, rfl, hk, rfl, HK, hS, hbx⟩ := hrel
    by_cases hlt : k < q
    · obtain ⟨ad, m, rfl, hBa, Hm, e0, e1, e2, e3⟩ := (HR.out.below hbx).at_ hlt
      have hkM : k < M.length := by rw [HQ.out]; exact hlt
      have ha := add_next HM.out hkM HK.out Hm.out
      have HA0 : Hid (addN K m = 0) := ha.1
      have HNX := Lib.hid ha.2
      have HBX := Lib.hid hbx
      have hzz := hS.size
      clear hbx ha hkM
      go_wp2_with (go_at_call 12; (with_reducible refine (add_k _ B (B + 1) B K m 0 HA0 (hS.alloc _)).mono ?_); rintro e w3 ⟨rfl, hS3, hb3⟩)
      go_roundw
      case rel => exact ⟨k + 1, _, addL K m, rfl, by omega, by go_num, HNX, hS3, HBX.out.trans (((Below.refl _ _).alloc hzz.2.2 _).trans hb3)⟩
      case measure => simp [intOf]; omega
    · have hkq : k = q := by omega
      subst hkq
      have HBX := Lib.hid hbx
      have hKl : K.length ≤ 30 := by rw [HK.out.length_eq, List.length_take]; have := HQ.out; omega
      have hKsrt := Lib.hid hS.srt
      clear hbx HK HR
      obtain ⟨ns, hns⟩ : ∃ v, (K.filter (P38 x)).length = v := ⟨_, rfl⟩
      obtain ⟨ni, hni⟩ : ∃ v, (K.filter (P39 x y)).length = v := ⟨_, rfl⟩
      obtain ⟨nK, hnK⟩ : ∃ nK, K.length = nK := ⟨_, rfl⟩
      have HC3 : Hid (∀ w, SetK w B (B + 1) B K → Calls Try.prog 21 #[.pointer (some ⟨B + 1, 0, none⟩), .int .i64 x] w fun e w' => ∃ A p, e = .returned (.slice A ns p) ∧ w'.ownsRow w.heap.size 3 1 (.slice A ns p) ns (vids (K.filter (P38 x))) ∧ Below w.heap.size w w') := by
        intro w h
        have := stab_k w B (B + 1) B K x h
        rw [hns] at this
        exact this
      have HC4 : Hid (∀ w, SetK w B (B + 1) B K → Calls Try.prog 22 #[.pointer (some ⟨B + 1, 0, none⟩), .int .i64 x, .int .i64 y] w fun e w' => ∃ A p, e = .returned (.slice A ni p) ∧ w'.ownsRow w.heap.size 3 1 (.slice A ni p) ni (vids (K.filter (P39 x y))) ∧ Below w.heap.size w w') := by
        intro w h
        have := within_k w B (B + 1) B K x y h
        rw [hni] at this
        exact this
      have HC5 : Hid (∀ w, SetK w B (B + 1) B K → Calls Try.prog 16 #[.pointer (some ⟨B + 1, 0, none⟩)] w fun e w' => ∃ A p, e = .returned (.slice A nK p) ∧ RdM w' w'.heap.size A nK K ∧ Below w.heap.size w w') := by
        intro w h
        refine (all_k w B (B + 1) B K h).mono ?_
        rintro e w' ⟨A, p, rfl, ho, hb⟩
        have hr := RdM.of_own ho (Below.refl _ _)
        rw [hnK] at hr ⊢
        exact ⟨A, p, rfl, hr, hb⟩
      rw [hnK] at hKl
      have HNS := Lib.hid hns
      have HNI := Lib.hid hni
      have HNK := Lib.hid hnK
      clear hns hni hnK
      go_wp2_with (first
        | (go_at_call 21; (with_reducible refine (HC3.out _ hS).mono ?_); rintro e w4 ⟨A4, p4, rfl, ho4, hb4⟩; have hS4 := hS.below hb4)
        | (go_at_call 22; (with_reducible refine (HC4.out _ hS4).mono ?_); rintro e w5 ⟨A5, p5, rfl, ho5, hb5⟩; have hS5 := hS4.below hb5)
        | (go_at_call 16; (with_reducible refine (HC5.out _ hS5).mono ?_); rintro e w6 ⟨A6, p6, rfl, hr6, hb6⟩; have hS6 := hS5.below hb6))
      have HR6 := Lib.hid hr6
      have HS6 := Lib.hid hS6
      have hz4 := hb4.size
      have hz5 := hb5.size
      have hz6 := hb6.size
      have HB6 : Hid (Below B w2 w6) := HBX.out.trans (((hb4.mono (by have := hS.size; omega)).trans (hb5.mono (by have := hS4.size; omega))).trans (hb6.mono (by have := hS5.size; omega)))
      have r4 := (((Rds.of_own ho4).below hb5).below (hb6.mono hz5))
      have r5 := ((Rds.of_own ho5).below hb6)
      rw [vids_eq] at r4 r5
      have HR4 := Lib.hid (r4.more (Nat.le_trans hz5 hz6))
      have HR5 := Lib.hid (r5.more hz6)
      have hns30 : ns ≤ 30 := by have := List.length_filter_le (P38 x) K; have h1 := HNS.out; have h2 := HNK.out; omega
      have hni30 : ni ≤ 30 := by have := List.length_filter_le (P39 x y) K; have h1 := HNI.out; have h2 := HNK.out; omega
      clear hS hS4 hS5 hS6 hb4 hb5 hb6 ho4 ho5 hr6 r4 r5 HBX hz4 hz5 hz6 HC3 HC4
      go_loopw [12, 13, 46] (fun o u i wr => ∃ (k : Nat) (w0 : World) (ci cj : Nat), w0 = wr ∧ k ≤ nK ∧ i = .int .i64 k ∧ o = .int .i64 ci ∧ u = .int .i64 cj ∧ ci ≤ k ∧ cj ≤ k ∧ Hid (((K.take k).filter (P38 x)).length = ci) ∧ Hid (((K.take k).filter (P39 x y)).length = cj) ∧ Below w6.heap.size w6 wr) (fun _ _ i _ => nK - (intOf i).toNat)
      case atStart => exact ⟨0, _, 0, 0, rfl, Nat.zero_le _, rfl, rfl, rfl, Nat.le_refl _, Nat.le_refl _, rfl, rfl, Below.refl _ _⟩
      case round =>
        obtain ⟨k, wr, ci, cj, rfl, hk, rfl, rfl, rfl, hck, hcj, HCI, HCJ, hbx⟩ := hrel
        by_cases hlt : k < nK
        · have hkK : Hid (k < K.length) := by rw [Hid, HNK.out]; exact hlt
          obtain ⟨ad, m, rfl, hBa, Hm, e0, e1, e2, e3⟩ := (HR6.out.below hbx).at_ hlt
          have hS7 := HS6.out.below hbx
          have HBX := Lib.hid hbx
          have hxz := hbx.size
          have hBw : (ad.add (k * 4)).block < wr.heap.size := by omega
          clear hbx
          by_cases hk0 : k = 0
          · subst hk0
            simp only [Nat.zero_mul, add_zero'] at e0 e1 e2 e3 hBw
            go_wp2
            go_region
            obtain ⟨X8, hX8⟩ : ∃ X8, X8 = (wr.alloc (.cells #[.int .i64 m.id, .int .i64 m.fr, .int .i64 m.to, .int .i64 m.pr] 30 (0, 0))).drew := ⟨_, rfl⟩
            rw [← hX8]
            have K8 : X8.heap[wr.heap.size]? = some (.cells #[.int .i64 m.id, .int .i64 m.fr, .int .i64 m.to, .int .i64 m.pr] 30 (0, 0)) := by rw [hX8]; exact heap_new _ _
            have HB8 : Hid (Below wr.heap.size wr X8) := by rw [hX8]; exact ((Below.refl _ _).alloc (Nat.le_refl _) _).drew
            have b0 := cell_of_row X8 wr.heap.size 0 _ _ _ K8
            have b1 := cell_of_row X8 wr.heap.size 1 _ _ _ K8
            have b2 := cell_of_row X8 wr.heap.size 2 _ _ _ K8
            have b3 := cell_of_row X8 wr.heap.size 3 _ _ _ K8
            clear K8 hX8 e0 e1 e2 e3 hBw hS7
            have h3 : (m.fr ≤ x ∧ x ≤ m.to) ∨ (¬ m.fr ≤ x) ∨ (m.fr ≤ x ∧ ¬ x ≤ m.to) := by omega
            have h4 : (x ≤ m.fr ∧ m.to ≤ y) ∨ (¬ x ≤ m.fr) ∨ (x ≤ m.fr ∧ ¬ m.to ≤ y) := by omega
            rcases h3 with ⟨c1, c2⟩ | c1 | ⟨c1, c2⟩
            · have hps : P38 x m = true := by simp only [P38, decide_eq_true_eq]; omega
              obtain ⟨f1s, f2s, f3s⟩ := filter_next K 0 hkK.out (P38 x) m Hm.out hps
              rw [HNS.out, HCI.out] at f1s
              rw [HCI.out] at f2s f3s
              obtain ⟨ads, zs, hAs, hbks, hczs, Hzs⟩ := ((HR4.out.below HBX.out).below (HB8.out.mono hxz)).int_at f1s
              subst hAs
              have hzs : zs = m.id := Hzs.out.trans f2s
              subst hzs
              have HC2s := Lib.hid f3s
              have hgs1 : decide ((ci : Int) ≥ (ns : Int)) = false := by simp; omega
              have hgs2 : decide ((ns : Int) ≤ (ci : Int)) = false := by simp; omega
              have hgs3 : decide (ns ≤ ci) = false := by simp; omega
              have hgs4 : (0 : Int) ≤ (ci : Int) := by omega
              have hgs5 : (ci : Int) < (ns : Int) := by omega
              clear hps f2s f3s Hzs
              rcases h4 with ⟨d1, d2⟩ | d1 | ⟨d1, d2⟩
              · have hpi : P39 x y m = true := by simp only [P39, decide_eq_true_eq]; omega
                obtain ⟨f1i, f2i, f3i⟩ := filter_next K 0 hkK.out (P39 x y) m Hm.out hpi
                rw [HNI.out, HCJ.out] at f1i
                rw [HCJ.out] at f2i f3i
                obtain ⟨adi, zi, hAi, hbki, hczi, Hzi⟩ := ((HR5.out.below HBX.out).below (HB8.out.mono hxz)).int_at f1i
                subst hAi
                have hzi : zi = m.id := Hzi.out.trans f2i
                subst hzi
                have HC2i := Lib.hid f3i
                have hgi1 : decide ((cj : Int) ≥ (ni : Int)) = false := by simp; omega
                have hgi2 : decide ((ni : Int) ≤ (cj : Int)) = false := by simp; omega
                have hgi3 : decide (ni ≤ cj) = false := by simp; omega
                have hgi4 : (0 : Int) ≤ (cj : Int) := by omega
                have hgi5 : (cj : Int) < (ni : Int) := by omega
                clear hpi f2i f3i Hzi
                go_wp2
                go_region
                go_wp2
                go_region
                go_wp2
                go_roundw
                case rel => exact ⟨0 + 1, _, ci + 1, cj + 1, rfl, by omega, by go_num, by go_num, by go_num, by omega, by omega, HC2s, HC2i, HBX.out.trans ((by repeat (first | exact HB8.out | refine Below.drew ?_) : Below wr.heap.size wr _).mono hxz)⟩
                case measure => simp [intOf]; omega
              · have hpi : P39 x y m = false := by simp only [P39, decide_eq_false_iff_not]; omega
                have f3i := filter_same K 0 hkK.out (P39 x y) m Hm.out hpi
                rw [HCJ.out] at f3i
                have HC2i := Lib.hid f3i
                clear hpi f3i
                go_wp2
                go_region
                go_wp2
                go_roundw
                case rel => exact ⟨0 + 1, _, ci + 1, cj, rfl, by omega, by go_num, by go_num, by go_num, by omega, by omega, HC2s, HC2i, HBX.out.trans ((by repeat (first | exact HB8.out | refine Below.drew ?_) : Below wr.heap.size wr _).mono hxz)⟩
                case measure => simp [intOf]; omega
              · have hpi : P39 x y m = false := by simp only [P39, decide_eq_false_iff_not]; omega
                have f3i := filter_same K 0 hkK.out (P39 x y) m Hm.out hpi
                rw [HCJ.out] at f3i
                have HC2i := Lib.hid f3i
                clear hpi f3i
                go_wp2
                go_region
                go_wp2
                go_roundw
                case rel => exact ⟨0 + 1, _, ci + 1, cj, rfl, by omega, by go_num, by go_num, by go_num, by omega, by omega, HC2s, HC2i, HBX.out.trans ((by repeat (first | exact HB8.out | refine Below.drew ?_) : Below wr.heap.size wr _).mono hxz)⟩
                case measure => simp [intOf]; omega
            · have hps : P38 x m = false := by simp only [P38, decide_eq_false_iff_not]; omega
              have f3s := filter_same K 0 hkK.out (P38 x) m Hm.out hps
              rw [HCI.out] at f3s
              have HC2s := Lib.hid f3s
              clear hps f3s
              rcases h4 with ⟨d1, d2⟩ | d1 | ⟨d1, d2⟩
              · have hpi : P39 x y m = true := by simp only [P39, decide_eq_true_eq]; omega
                obtain ⟨f1i, f2i, f3i⟩ := filter_next K 0 hkK.out (P39 x y) m Hm.out hpi
                rw [HNI.out, HCJ.out] at f1i
                rw [HCJ.out] at f2i f3i
                obtain ⟨adi, zi, hAi, hbki, hczi, Hzi⟩ := ((HR5.out.below HBX.out).below (HB8.out.mono hxz)).int_at f1i
                subst hAi
                have hzi : zi = m.id := Hzi.out.trans f2i
                subst hzi
                have HC2i := Lib.hid f3i
                have hgi1 : decide ((cj : Int) ≥ (ni : Int)) = false := by simp; omega
                have hgi2 : decide ((ni : Int) ≤ (cj : Int)) = false := by simp; omega
                have hgi3 : decide (ni ≤ cj) = false := by simp; omega
                have hgi4 : (0 : Int) ≤ (cj : Int) := by omega
                have hgi5 : (cj : Int) < (ni : Int) := by omega
                clear hpi f2i f3i Hzi
                go_wp2
                go_region
                go_wp2
                go_roundw
                case rel => exact ⟨0 + 1, _, ci, cj + 1, rfl, by omega, by go_num, by go_num, by go_num, by omega, by omega, HC2s, HC2i, HBX.out.trans ((by repeat (first | exact HB8.out | refine Below.drew ?_) : Below wr.heap.size wr _).mono hxz)⟩
                case measure => simp [intOf]; omega
              · exfalso
                omega
              · have hpi : P39 x y m = false := by simp only [P39, decide_eq_false_iff_not]; omega
                have f3i := filter_same K 0 hkK.out (P39 x y) m Hm.out hpi
                rw [HCJ.out] at f3i
                have HC2i := Lib.hid f3i
                clear hpi f3i
                go_wp2
                go_roundw
                case rel => exact ⟨0 + 1, _, ci, cj, rfl, by omega, by go_num, by go_num, by go_num, by omega, by omega, HC2s, HC2i, HBX.out.trans ((by repeat (first | exact HB8.out | refine Below.drew ?_) : Below wr.heap.size wr _).mono hxz)⟩
                case measure => simp [intOf]; omega
            · have hps : P38 x m = false := by simp only [P38, decide_eq_false_iff_not]; omega
              have f3s := filter_same K 0 hkK.out (P38 x) m Hm.out hps
              rw [HCI.out] at f3s
              have HC2s := Lib.hid f3s
              clear hps f3s
              rcases h4 with ⟨d1, d2⟩ | d1 | ⟨d1, d2⟩
              · have hpi : P39 x y m = true := by simp only [P39, decide_eq_true_eq]; omega
                obtain ⟨f1i, f2i, f3i⟩ := filter_next K 0 hkK.out (P39 x y) m Hm.out hpi
                rw [HNI.out, HCJ.out] at f1i
                rw [HCJ.out] at f2i f3i
                obtain ⟨adi, zi, hAi, hbki, hczi, Hzi⟩ := ((HR5.out.below HBX.out).below (HB8.out.mono hxz)).int_at f1i
                subst hAi
                have hzi : zi = m.id := Hzi.out.trans f2i
                subst hzi
                have HC2i := Lib.hid f3i
                have hgi1 : decide ((cj : Int) ≥ (ni : Int)) = false := by simp; omega
                have hgi2 : decide ((ni : Int) ≤ (cj : Int)) = false := by simp; omega
                have hgi3 : decide (ni ≤ cj) = false := by simp; omega
                have hgi4 : (0 : Int) ≤ (cj : Int) := by omega
                have hgi5 : (cj : Int) < (ni : Int) := by omega
                clear hpi f2i f3i Hzi
                go_wp2
                go_region
                go_wp2
                go_roundw
                case rel => exact ⟨0 + 1, _, ci, cj + 1, rfl, by omega, by go_num, by go_num, by go_num, by omega, by omega, HC2s, HC2i, HBX.out.trans ((by repeat (first | exact HB8.out | refine Below.drew ?_) : Below wr.heap.size wr _).mono hxz)⟩
                case measure => simp [intOf]; omega
              · have hpi : P39 x y m = false := by simp only [P39, decide_eq_false_iff_not]; omega
                have f3i := filter_same K 0 hkK.out (P39 x y) m Hm.out hpi
                rw [HCJ.out] at f3i
                have HC2i := Lib.hid f3i
                clear hpi f3i
                go_wp2
                go_roundw
                case rel => exact ⟨0 + 1, _, ci, cj, rfl, by omega, by go_num, by go_num, by go_num, by omega, by omega, HC2s, HC2i, HBX.out.trans ((by repeat (first | exact HB8.out | refine Below.drew ?_) : Below wr.heap.size wr _).mono hxz)⟩
                case measure => simp [intOf]; omega
              · have hpi : P39 x y m = false := by simp only [P39, decide_eq_false_iff_not]; omega
                have f3i := filter_same K 0 hkK.out (P39 x y) m Hm.out hpi
                rw [HCJ.out] at f3i
                have HC2i := Lib.hid f3i
                clear hpi f3i
                go_wp2
                go_roundw
                case rel => exact ⟨0 + 1, _, ci, cj, rfl, by omega, by go_num, by go_num, by go_num, by omega, by omega, HC2s, HC2i, HBX.out.trans ((by repeat (first | exact HB8.out | refine Below.drew ?_) : Below wr.heap.size wr _).mono hxz)⟩
                case measure => simp [intOf]; omega
          · obtain ⟨j, hj⟩ : ∃ j, k = j + 1 := ⟨k - 1, by omega⟩
            have hj1 : (k : Int) - 1 = (j : Int) := by omega
            have hj2 : IntKind.i64.wrap ((k : Int) - 1) = (j : Int) := by rw [hj1]; exact IntWalk.i64_in _ (by omega)
            have hjn : j < nK := by omega
            have hkp : decide ((k : Int) > 0) = true := by simp; omega
            have hkp2 : decide (0 < k) = true := by simp; omega
            have hkp3 : (0 : Int) ≤ (j : Int) := by omega
            have hkq1 : (0 : Int) ≤ (k : Int) - 1 := by omega
            have hj4 : IntKind.i64.wrap (j : Int) = (j : Int) := IntWalk.i64_in _ (by omega)
            have hkq2 : (k : Int) - 1 < (nK : Int) := by omega
            have hkq3 : ((k : Int) - 1).toNat = j := by omega
            have hkp4 : (j : Int) < (nK : Int) := by omega
            obtain ⟨v, Hv⟩ : ∃ v, Hid (K.getD j ⟨0, 0, 0, 0⟩ = v) := ⟨_, rfl⟩
            have HLT : Hid (lt v m = true) := by
              have h := sorted_next hKsrt.out (j := j) (by have := hkK.out; omega)
              rw [← hj, Hv.out, Hm.out] at h
              exact h
            clear hj
            go_upto_region 17 with fail
            go_cut [63] (fun s63 wx => s63 = .bool false ∧ (wx.cell? ⟨wr.heap.size, 0, none⟩ = some (.int .i64 m.id) ∧ wx.cell? ⟨wr.heap.size, 1, none⟩ = some (.int .i64 m.fr) ∧ wx.cell? ⟨wr.heap.size, 2, none⟩ = some (.int .i64 m.to) ∧ wx.cell? ⟨wr.heap.size, 3, none⟩ = some (.int .i64 m.pr)) ∧ Hid (Below wr.heap.size wr wx))
            case first =>
              go_region_with ((first
                | (go_at_call 16; (with_reducible refine (HC5.out _ (hS7.alloc _).drew).mono ?_); rintro e w7 ⟨A7, p7, rfl, hr7, hb7⟩; obtain ⟨ad7, v', rfl, hB7, Hv', y0, y1, y2, y3⟩ := hr7.at_ hjn; obtain rfl : v' = v := Hv'.out.symm.trans Hv.out; have hz7 : wr.heap.size < w7.heap.size := (by have hz := hb7.size; (try simp at hz); omega); have HB7 : Hid (Below wr.heap.size wr w7) := (((Below.refl _ _).alloc (Nat.le_refl _) _).drew).trans (hb7.mono (by simp)); have x0 : w7.cell? ⟨wr.heap.size, 0, none⟩ = some (.int .i64 m.id) := (hb7.cell (p := ⟨wr.heap.size, 0, none⟩) (by simp)).trans (by simp [go_sem]); have x1 : w7.cell? ⟨wr.heap.size, 1, none⟩ = some (.int .i64 m.fr) := (hb7.cell (p := ⟨wr.heap.size, 1, none⟩) (by simp)).trans (by simp [go_sem]); have x2 : w7.cell? ⟨wr.heap.size, 2, none⟩ = some (.int .i64 m.to) := (hb7.cell (p := ⟨wr.heap.size, 2, none⟩) (by simp)).trans (by simp [go_sem]); have x3 : w7.cell? ⟨wr.heap.size, 3, none⟩ = some (.int .i64 m.pr) := (hb7.cell (p := ⟨wr.heap.size, 3, none⟩) (by simp)).trans (by simp [go_sem]); clear hb7 hr7)
                | (go_at_call 23; (with_reducible refine (ahead_v _ _ true HLT _).mono ?_); rintro e X8 ⟨rfl, hb8⟩; have HB8 : Hid (Below wr.heap.size wr X8) := HB7.out.trans (hb8.mono (by omega)); have HX8 : Hid (X8.cell? ⟨wr.heap.size, 0, none⟩ = some (.int .i64 m.id) ∧ X8.cell? ⟨wr.heap.size, 1, none⟩ = some (.int .i64 m.fr) ∧ X8.cell? ⟨wr.heap.size, 2, none⟩ = some (.int .i64 m.to) ∧ X8.cell? ⟨wr.heap.size, 3, none⟩ = some (.int .i64 m.pr)) := ⟨(hb8.cell (p := ⟨wr.heap.size, 0, none⟩) hz7).trans x0, (hb8.cell (p := ⟨wr.heap.size, 1, none⟩) hz7).trans x1, (hb8.cell (p := ⟨wr.heap.size, 2, none⟩) hz7).trans x2, (hb8.cell (p := ⟨wr.heap.size, 3, none⟩) hz7).trans x3⟩; clear hb8)))
              all_goals
                go_wp2_with fail
                go_meet
                exact ⟨rfl, HX8.out, HB8⟩
            case rest =>
              obtain ⟨rfl, ⟨b0, b1, b2, b3⟩, HB8⟩ := hcut
              clear e0 e1 e2 e3 hBw hS7 hj1 hj2 hj4 hkq1 hkq2 hkq3 hkp3 hkp4
              have h3 : (m.fr ≤ x ∧ x ≤ m.to) ∨ (¬ m.fr ≤ x) ∨ (m.fr ≤ x ∧ ¬ x ≤ m.to) := by omega
              have h4 : (x ≤ m.fr ∧ m.to ≤ y) ∨ (¬ x ≤ m.fr) ∨ (x ≤ m.fr ∧ ¬ m.to ≤ y) := by omega
              rcases h3 with ⟨c1, c2⟩ | c1 | ⟨c1, c2⟩
              · have hps : P38 x m = true := by simp only [P38, decide_eq_true_eq]; omega
                obtain ⟨f1s, f2s, f3s⟩ := filter_next K k hkK.out (P38 x) m Hm.out hps
                rw [HNS.out, HCI.out] at f1s
                rw [HCI.out] at f2s f3s
                obtain ⟨ads, zs, hAs, hbks, hczs, Hzs⟩ := ((HR4.out.below HBX.out).below (HB8.out.mono hxz)).int_at f1s
                subst hAs
                have hzs : zs = m.id := Hzs.out.trans f2s
                subst hzs
                have HC2s := Lib.hid f3s
                have hgs1 : decide ((ci : Int) ≥ (ns : Int)) = false := by simp; omega
                have hgs2 : decide ((ns : Int) ≤ (ci : Int)) = false := by simp; omega
                have hgs3 : decide (ns ≤ ci) = false := by simp; omega
                have hgs4 : (0 : Int) ≤ (ci : Int) := by omega
                have hgs5 : (ci : Int) < (ns : Int) := by omega
                clear hps f2s f3s Hzs
                rcases h4 with ⟨d1, d2⟩ | d1 | ⟨d1, d2⟩
                · have hpi : P39 x y m = true := by simp only [P39, decide_eq_true_eq]; omega
                  obtain ⟨f1i, f2i, f3i⟩ := filter_next K k hkK.out (P39 x y) m Hm.out hpi
                  rw [HNI.out, HCJ.out] at f1i
                  rw [HCJ.out] at f2i f3i
                  obtain ⟨adi, zi, hAi, hbki, hczi, Hzi⟩ := ((HR5.out.below HBX.out).below (HB8.out.mono hxz)).int_at f1i
                  subst hAi
                  have hzi : zi = m.id := Hzi.out.trans f2i
                  subst hzi
                  have HC2i := Lib.hid f3i
                  have hgi1 : decide ((cj : Int) ≥ (ni : Int)) = false := by simp; omega
                  have hgi2 : decide ((ni : Int) ≤ (cj : Int)) = false := by simp; omega
                  have hgi3 : decide (ni ≤ cj) = false := by simp; omega
                  have hgi4 : (0 : Int) ≤ (cj : Int) := by omega
                  have hgi5 : (cj : Int) < (ni : Int) := by omega
                  clear hpi f2i f3i Hzi
                  go_wp2
                  go_region
                  go_wp2
                  go_region
                  go_wp2
                  go_roundw
                  case rel => exact ⟨k + 1, _, ci + 1, cj + 1, rfl, by omega, by go_num, by go_num, by go_num, by omega, by omega, HC2s, HC2i, HBX.out.trans ((by repeat (first | exact HB8.out | refine Below.drew ?_) : Below wr.heap.size wr _).mono hxz)⟩
                  case measure => simp [intOf]; omega
                · have hpi : P39 x y m = false := by simp only [P39, decide_eq_false_iff_not]; omega
                  have f3i := filter_same K k hkK.out (P39 x y) m Hm.out hpi
                  rw [HCJ.out] at f3i
                  have HC2i := Lib.hid f3i
                  clear hpi f3i
                  go_wp2
                  go_region
                  go_wp2
                  go_roundw
                  case rel => exact ⟨k + 1, _, ci + 1, cj, rfl, by omega, by go_num, by go_num, by go_num, by omega, by omega, HC2s, HC2i, HBX.out.trans ((by repeat (first | exact HB8.out | refine Below.drew ?_) : Below wr.heap.size wr _).mono hxz)⟩
                  case measure => simp [intOf]; omega
                · have hpi : P39 x y m = false := by simp only [P39, decide_eq_false_iff_not]; omega
                  have f3i := filter_same K k hkK.out (P39 x y) m Hm.out hpi
                  rw [HCJ.out] at f3i
                  have HC2i := Lib.hid f3i
                  clear hpi f3i
                  go_wp2
                  go_region
                  go_wp2
                  go_roundw
                  case rel => exact ⟨k + 1, _, ci + 1, cj, rfl, by omega, by go_num, by go_num, by go_num, by omega, by omega, HC2s, HC2i, HBX.out.trans ((by repeat (first | exact HB8.out | refine Below.drew ?_) : Below wr.heap.size wr _).mono hxz)⟩
                  case measure => simp [intOf]; omega
              · have hps : P38 x m = false := by simp only [P38, decide_eq_false_iff_not]; omega
                have f3s := filter_same K k hkK.out (P38 x) m Hm.out hps
                rw [HCI.out] at f3s
                have HC2s := Lib.hid f3s
                clear hps f3s
                rcases h4 with ⟨d1, d2⟩ | d1 | ⟨d1, d2⟩
                · have hpi : P39 x y m = true := by simp only [P39, decide_eq_true_eq]; omega
                  obtain ⟨f1i, f2i, f3i⟩ := filter_next K k hkK.out (P39 x y) m Hm.out hpi
                  rw [HNI.out, HCJ.out] at f1i
                  rw [HCJ.out] at f2i f3i
                  obtain ⟨adi, zi, hAi, hbki, hczi, Hzi⟩ := ((HR5.out.below HBX.out).below (HB8.out.mono hxz)).int_at f1i
                  subst hAi
                  have hzi : zi = m.id := Hzi.out.trans f2i
                  subst hzi
                  have HC2i := Lib.hid f3i
                  have hgi1 : decide ((cj : Int) ≥ (ni : Int)) = false := by simp; omega
                  have hgi2 : decide ((ni : Int) ≤ (cj : Int)) = false := by simp; omega
                  have hgi3 : decide (ni ≤ cj) = false := by simp; omega
                  have hgi4 : (0 : Int) ≤ (cj : Int) := by omega
                  have hgi5 : (cj : Int) < (ni : Int) := by omega
                  clear hpi f2i f3i Hzi
                  go_wp2
                  go_region
                  go_wp2
                  go_roundw
                  case rel => exact ⟨k + 1, _, ci, cj + 1, rfl, by omega, by go_num, by go_num, by go_num, by omega, by omega, HC2s, HC2i, HBX.out.trans ((by repeat (first | exact HB8.out | refine Below.drew ?_) : Below wr.heap.size wr _).mono hxz)⟩
                  case measure => simp [intOf]; omega
                · exfalso
                  omega
                · have hpi : P39 x y m = false := by simp only [P39, decide_eq_false_iff_not]; omega
                  have f3i := filter_same K k hkK.out (P39 x y) m Hm.out hpi
                  rw [HCJ.out] at f3i
                  have HC2i := Lib.hid f3i
                  clear hpi f3i
                  go_wp2
                  go_roundw
                  case rel => exact ⟨k + 1, _, ci, cj, rfl, by omega, by go_num, by go_num, by go_num, by omega, by omega, HC2s, HC2i, HBX.out.trans ((by repeat (first | exact HB8.out | refine Below.drew ?_) : Below wr.heap.size wr _).mono hxz)⟩
                  case measure => simp [intOf]; omega
              · have hps : P38 x m = false := by simp only [P38, decide_eq_false_iff_not]; omega
                have f3s := filter_same K k hkK.out (P38 x) m Hm.out hps
                rw [HCI.out] at f3s
                have HC2s := Lib.hid f3s
                clear hps f3s
                rcases h4 with ⟨d1, d2⟩ | d1 | ⟨d1, d2⟩
                · have hpi : P39 x y m = true := by simp only [P39, decide_eq_true_eq]; omega
                  obtain ⟨f1i, f2i, f3i⟩ := filter_next K k hkK.out (P39 x y) m Hm.out hpi
                  rw [HNI.out, HCJ.out] at f1i
                  rw [HCJ.out] at f2i f3i
                  obtain ⟨adi, zi, hAi, hbki, hczi, Hzi⟩ := ((HR5.out.below HBX.out).below (HB8.out.mono hxz)).int_at f1i
                  subst hAi
                  have hzi : zi = m.id := Hzi.out.trans f2i
                  subst hzi
                  have HC2i := Lib.hid f3i
                  have hgi1 : decide ((cj : Int) ≥ (ni : Int)) = false := by simp; omega
                  have hgi2 : decide ((ni : Int) ≤ (cj : Int)) = false := by simp; omega
                  have hgi3 : decide (ni ≤ cj) = false := by simp; omega
                  have hgi4 : (0 : Int) ≤ (cj : Int) := by omega
                  have hgi5 : (cj : Int) < (ni : Int) := by omega
                  clear hpi f2i f3i Hzi
                  go_wp2
                  go_region
                  go_wp2
                  go_roundw
                  case rel => exact ⟨k + 1, _, ci, cj + 1, rfl, by omega, by go_num, by go_num, by go_num, by omega, by omega, HC2s, HC2i, HBX.out.trans ((by repeat (first | exact HB8.out | refine Below.drew ?_) : Below wr.heap.size wr _).mono hxz)⟩
                  case measure => simp [intOf]; omega
                · have hpi : P39 x y m = false := by simp only [P39, decide_eq_false_iff_not]; omega
                  have f3i := filter_same K k hkK.out (P39 x y) m Hm.out hpi
                  rw [HCJ.out] at f3i
                  have HC2i := Lib.hid f3i
                  clear hpi f3i
                  go_wp2
                  go_roundw
                  case rel => exact ⟨k + 1, _, ci, cj, rfl, by omega, by go_num, by go_num, by go_num, by omega, by omega, HC2s, HC2i, HBX.out.trans ((by repeat (first | exact HB8.out | refine Below.drew ?_) : Below wr.heap.size wr _).mono hxz)⟩
                  case measure => simp [intOf]; omega
                · have hpi : P39 x y m = false := by simp only [P39, decide_eq_false_iff_not]; omega
                  have f3i := filter_same K k hkK.out (P39 x y) m Hm.out hpi
                  rw [HCJ.out] at f3i
                  have HC2i := Lib.hid f3i
                  clear hpi f3i
                  go_wp2
                  go_roundw
                  case rel => exact ⟨k + 1, _, ci, cj, rfl, by omega, by go_num, by go_num, by go_num, by omega, by omega, HC2s, HC2i, HBX.out.trans ((by repeat (first | exact HB8.out | refine Below.drew ?_) : Below wr.heap.size wr _).mono hxz)⟩
                  case measure => simp [intOf]; omega
        · have hkn : k = nK := by omega
          subst hkn
          have hci : ci = ns := by rw [← HCI.out, ← HNS.out, ← HNK.out, List.take_length]
          have hcj' : cj = ni := by rw [← HCJ.out, ← HNI.out, ← HNK.out, List.take_length]
          subst hci
          subst hcj'
          have HBX := Lib.hid hbx
          have hxz := hbx.size
          clear hbx
          go_wp2_with (go_at_call 17; (with_reducible refine (known_any _).mono ?_); rintro e w9 ⟨rfl, hb9⟩)
          go_ret
          exact ⟨rfl, HB1.out.trans ((HB2.out.trans (HB6.out.trans ((HBX.out.trans (hb9.mono hxz)).mono HS6.out.size.2.2))).mono hBz)⟩
end Go.Proofs.Ytkibhinpbpgkeaa
