/- The walk of the reference's Splice: what is done. -/
import Derived.Test.YtpfceochplghlaaRe
import Derived.Test.YtpfceochplghlaaZc
namespace Go.Proofs.Ytpfceochplghlaa
open Go.RowKit
attribute [local go_sem ↓] Go.wp_at_zero Go.wp_at_succ

theorem extP_full_in {P : List Pc} {j fr m : Nat} {pf pl : Nat} (hj : P.length = j + 1) (hp : P.getD j pc0 = ⟨true, pf, pl⟩) (h2 : pf + pl = fr) : extP P fr m = P.take j ++ [⟨true, pf, pl + m⟩] ++ P.drop (j + 1) := by
  have h := extP_in (L := P) (i := j + 1) (fr := fr) (m := m) (by omega) (by omega) (by rw [Nat.add_sub_cancel, hp]) (by rw [Nat.add_sub_cancel, hp]; exact h2)
  rw [List.take_of_length_le (by omega), Nat.add_sub_cancel, hp] at h
  rw [h, List.drop_of_length_le (by omega), List.append_nil]
theorem extP_full_out {P : List Pc} {j fr m : Nat} (hj : P.length = j + 1) (h2 : ¬ ((P.getD j pc0).add = true ∧ (P.getD j pc0).fr + (P.getD j pc0).ln = fr)) : extP P fr m = P ++ [⟨true, fr, m⟩] := by
  have h := extP_out (L := P) (i := j + 1) (fr := fr) (m := m) (by omega) (by rw [Nat.add_sub_cancel]; exact fun hh => h2 hh.2)
  rwa [List.take_of_length_le (by omega)] at h
theorem extP_nil (fr m : Nat) : extP [] fr m = [⟨true, fr, m⟩] := by simp [extP]

set_option maxRecDepth 100000 in
set_option maxHeartbeats 4000000 in
theorem rsplice_do (W : World) (r : Nat) (G : List Nat) (T : Tb) (a k : Nat) (A : Option Addr) (m c : Nat) (zs : List Int) (h : RefIn W r G T) (ha : a + k ≤ plen T.ps) (h1 : Hid (mayB zs = true)) (h2 : roomB (plen T.ps) k T.add.length m = true) (hkm : ¬ (k = 0 ∧ m = 0))
    (hr : Rds W W.heap.size 1 A m (zs.map (Value.int .i32))) :
    Calls Try.prog 21 #[.pointer (some ⟨r, 0, none⟩), .int .i64 a, .int .i64 k, .slice A m c] W (RSplPost W r G (splT T a k zs)) := by
  obtain ⟨i0, hi0, hz0, hz1, hz2⟩ := info_parts info53
  have H := Lib.hid h
  have HR := Lib.hid hr
  have hok := h.ok
  have hl := hok.len
  have had := hok.add
  have hzm := hr.int_len
  simp only [roomB, decide_eq_true_eq] at h2
  obtain ⟨h2a, h2b⟩ := h2
  have HOK' := Lib.hid (spl_ok (zs := zs) hok ha (by omega) (by omega))
  have h0 : Hid (thereB (plen T.ps) a k = true) := by simp only [Hid, thereB, decide_eq_true_eq]; omega
  obtain ⟨A0, n0, c0, A1, n1, c1, A2, n2, c2, hat, hFF, _⟩ := h
  obtain ⟨z0, z1, z2⟩ := hat.cells
  have HZ1 := Lib.hid z1
  have hn1 := hat.lens.2.1
  rw [hn1] at had h2b
  have HAT := Lib.hid hat
  have HG : Hid (r ∈ G ∧ ∀ g ∈ blk A0, g ∈ G) := by rw [hFF]; exact ⟨by simp, fun g hg => by simp [hg]⟩
  have htl := hat.lt r (by simp)
  obtain ⟨P, hP⟩ : ∃ P, (cutP T.ps a).1 = P := ⟨_, rfl⟩
  obtain ⟨R, hR⟩ : ∃ R, (cutP T.ps a).2 = R := ⟨_, rfl⟩
  obtain ⟨Q, hQ⟩ : ∃ Q, (cutP R k).2 = Q := ⟨_, rfl⟩
  have hc1 := cutP_len T.ps a (by omega)
  rw [hP, hR] at hc1
  have hfitT : ∀ p ∈ T.ps, 0 < p.ln ∧ p.fr + p.ln ≤ 20000 := fun p hp => ⟨hok.pos p hp, by have := pc_bound hok hp; omega⟩
  have hst : ∀ (p : Pc) (x : Nat), (0 < p.ln ∧ p.fr + p.ln ≤ 20000) → 0 < x → x < p.ln → (0 < (⟨p.add, p.fr, x⟩ : Pc).ln ∧ (⟨p.add, p.fr, x⟩ : Pc).fr + (⟨p.add, p.fr, x⟩ : Pc).ln ≤ 20000) ∧ (0 < (⟨p.add, p.fr + x, p.ln - x⟩ : Pc).ln ∧ (⟨p.add, p.fr + x, p.ln - x⟩ : Pc).fr + (⟨p.add, p.fr + x, p.ln - x⟩ : Pc).ln ≤ 20000) := fun p x h0 h1 h2 => by simp only; omega
  have hall := cutP_all (P := fun p => 0 < p.ln ∧ p.fr + p.ln ≤ 20000) T.ps hst a hfitT
  rw [hP, hR] at hall
  have hallQ := (cutP_all (P := fun p => 0 < p.ln ∧ p.fr + p.ln ≤ 20000) R hst k hall.2).2
  rw [hQ] at hallQ
  have HPA := Lib.hid hall.1
  have HRA := Lib.hid hall.2
  have hPlen : P.length ≤ 1000 := by have := count_le fun p hp => (hall.1 p hp).1; omega
  have hRlen : plen R ≤ 1000 := by omega
  have hQlen : Q.length ≤ 1000 := by
    have h1 := (cutP_count R k).2
    rw [hQ] at h1
    have h2 := count_le fun p hp => (hall.2 p hp).1
    omega
  have HRL := Lib.hid hRlen
  have HPLen := Lib.hid hPlen
  have HQLen := Lib.hid hQlen
  have HS : Hid (splT T a k zs = ⟨T.fst, T.add ++ zs, (if m = 0 then P else extP P n1 m) ++ Q⟩) := by
    unfold Hid splT
    rw [hP, hR, hQ, hn1, hzm]
  obtain ⟨l, hll⟩ : ∃ l, plen T.ps = l := ⟨_, rfl⟩
  rw [hll] at hl ha h2a h0
  have HLL := Lib.hid hll
  have hw1 : IntKind.i64.wrap ((l : Int) - k) = ((l - k : Nat) : Int) := by rw [show (l : Int) - k = ((l - k : Nat) : Int) from by omega]; exact IntWalk.i64_in _ (by omega)
  obtain ⟨d, hd⟩ : ∃ d, l - k = d := ⟨_, rfl⟩
  rw [hd] at hw1 h2a
  have hw2 : IntKind.i64.wrap (1000 - (d : Int)) = 1000 - (d : Int) := IntWalk.i64_in _ (by omega)
  have hw3 : IntKind.i64.wrap (20000 - (n1 : Int)) = 20000 - (n1 : Int) := IntWalk.i64_in _ (by omega)
  have hf : ¬ 1000 - (d : Int) < (m : Int) := by omega
  have hg : ¬ 20000 - (n1 : Int) < (m : Int) := by omega
  have hm63 : m ≤ 9223372036854775807 := by omega
  have ha1000 : a ≤ 1000 := by omega
  have hk1000 : k ≤ 1000 := by omega
  have HSP1 : Hid (∀ w w' : World, True) := fun _ _ => trivial
  have HPP := Lib.hid hP
  have HRR := Lib.hid hR
  have HQQ := Lib.hid hQ
  have HOKT := Lib.hid hok
  have hTl : plen T.ps ≤ 1000 := by omega
  have HTL := Lib.hid hTl
  have hnm : (n1 + m) * 4 ≤ 140737488355328 := by omega
  have hz0k : ((k : Int) == 0) = true → ((m : Int) == 0) = false := fun h => by simp at h ⊢; omega
  have HNM := Lib.hid h2b
  clear hFF hr hok hat hn1 hll z0 hd hzm hc1 hP hR hQ hfitT hst hall hallQ HSP1 hPlen hRlen hQlen hTl had
  have hJK : Hid (∀ (s : Unit), True) := fun _ => trivial
  clear hJK
  go_enter Try.func21, Try.ntmps21
  go_upto_region 8 with (first
    | (go_at_call 41; (with_reducible refine (rlen_v W r G T l HLL H.out).mono ?_); rintro e w' ⟨rfl, rfl⟩)
    | (go_at_call 23; (with_reducible refine (within_v l a k true h0 (by omega) _).mono ?_); rintro e w' ⟨rfl, rfl⟩)
    | (go_at_call 39; (with_reducible refine (rmay_v A m c _ zs true h1 W HR.out hm63).mono ?_); rintro e w' ⟨rfl, rfl⟩)
    | (go_at_call 42; (with_reducible refine (split_any W A2 n2 c2 a T.ps HAT.out.r2 HOKT.out.pos HTL.out (fun p hp => by have := pc_bound HOKT.out hp; omega) ha1000).mono ?_); rintro e w1 ⟨A5, n5, c5, B5, m5, d5, rfl, hsi, hb1⟩; have HSI : Hid (SplitInv W.heap.size w1 A5 n5 c5 P B5 m5 d5 R) := (by rw [← HPP.out, ← HRR.out]; exact hsi); have HSR : Hid (w1.ownsRow 0 53 3 (.slice B5 m5 d5) m5 (pcs R)) := own_lower HSI.out.2.1 (Nat.zero_le _); have HB1 := Lib.hid hb1; have z1w1 := (hb1.cell (p := ⟨r, 1, none⟩) htl).trans HZ1.out; clear hsi hb1)
    | (go_at_call 42; (with_reducible refine (split_any w1 B5 m5 d5 k R HSR.out (fun p hp => (HRA.out p hp).1) HRL.out (fun p hp => (HRA.out p hp).2) hk1000).mono ?_); rintro e w2 ⟨A7, n7, c7, B6, m6, d6, rfl, hsi2, hb2⟩; have HSQ : Hid (PRow w1.heap.size w2 B6 m6 d6 Q) := (by rw [← HQQ.out]; exact hsi2.2.1); have HB2 := Lib.hid hb2; have HB12 : Hid (Below W.heap.size W w2) := bmore HB1.out (Nat.le_refl _) hb2; have z1w2 := (HB12.out.cell (p := ⟨r, 1, none⟩) htl).trans HZ1.out; clear hsi2 hb2)
    | (go_at_call 43; (with_reducible refine (join_any A1 A n1 c1 m c T.add zs w2 ((Rds.of_own (own_below HAT.out.r1 HB12.out fun k hk => (HAT.out.r1.lt k hk).2))) ((HR.out.below HB12.out).more HB12.out.size) hnm).mono ?_); rintro e w3 ⟨v3, rfl, hown3, hb3⟩; obtain ⟨A3, c3, rfl, _, _⟩ := own_form hown3; have HO3 := Lib.hid hown3; have HB3 := Lib.hid hb3; have HB13 : Hid (Below W.heap.size W w3) := bmore HB12.out (Nat.le_refl _) hb3; have htop3 := (HB13.out.block r htl).trans HAT.out.top; have htw3 : r < w3.heap.size := (Array.getElem?_eq_some_iff.1 htop3).1; have htf3 := frozen_of_row w3 r 1 _ _ htop3; have htz3 := cell_of_row w3 r 1 _ _ _ htop3; clear htop3 hown3 hb3))
  go_cut [47] (fun s47 wx => s47 = .bool false ∧ W = wx)
  case first =>
    by_cases hk0 : k = 0
    · have hk1 : ((k : Int) == 0) = true := by simp; omega
      have hk2 := hz0k hk1
      clear hk0
      go_wp2_with fail
      go_meet
      exact ⟨rfl, rfl⟩
    · have hk1 : ((k : Int) == 0) = false := by simp; omega
      clear hk0
      go_wp2_with fail
      go_meet
      exact ⟨rfl, rfl⟩
  case rest =>
  obtain ⟨rfl, rfl⟩ := hcut
  go_upto_region 14 with (first
    | (go_at_call 41; (with_reducible refine (rlen_v W r G T l HLL H.out).mono ?_); rintro e w' ⟨rfl, rfl⟩)
    | (go_at_call 23; (with_reducible refine (within_v l a k true h0 (by omega) _).mono ?_); rintro e w' ⟨rfl, rfl⟩)
    | (go_at_call 39; (with_reducible refine (rmay_v A m c _ zs true h1 W HR.out hm63).mono ?_); rintro e w' ⟨rfl, rfl⟩)
    | (go_at_call 42; (with_reducible refine (split_any W A2 n2 c2 a T.ps HAT.out.r2 HOKT.out.pos HTL.out (fun p hp => by have := pc_bound HOKT.out hp; omega) ha1000).mono ?_); rintro e w1 ⟨A5, n5, c5, B5, m5, d5, rfl, hsi, hb1⟩; have HSI : Hid (SplitInv W.heap.size w1 A5 n5 c5 P B5 m5 d5 R) := (by rw [← HPP.out, ← HRR.out]; exact hsi); have HSR : Hid (w1.ownsRow 0 53 3 (.slice B5 m5 d5) m5 (pcs R)) := own_lower HSI.out.2.1 (Nat.zero_le _); have HB1 := Lib.hid hb1; have z1w1 := (hb1.cell (p := ⟨r, 1, none⟩) htl).trans HZ1.out; clear hsi hb1)
    | (go_at_call 42; (with_reducible refine (split_any w1 B5 m5 d5 k R HSR.out (fun p hp => (HRA.out p hp).1) HRL.out (fun p hp => (HRA.out p hp).2) hk1000).mono ?_); rintro e w2 ⟨A7, n7, c7, B6, m6, d6, rfl, hsi2, hb2⟩; have HSQ : Hid (PRow w1.heap.size w2 B6 m6 d6 Q) := (by rw [← HQQ.out]; exact hsi2.2.1); have HB2 := Lib.hid hb2; have HB12 : Hid (Below W.heap.size W w2) := bmore HB1.out (Nat.le_refl _) hb2; have z1w2 := (HB12.out.cell (p := ⟨r, 1, none⟩) htl).trans HZ1.out; clear hsi2 hb2)
    | (go_at_call 43; (with_reducible refine (join_any A1 A n1 c1 m c T.add zs w2 ((Rds.of_own (own_below HAT.out.r1 HB12.out fun k hk => (HAT.out.r1.lt k hk).2))) ((HR.out.below HB12.out).more HB12.out.size) hnm).mono ?_); rintro e w3 ⟨v3, rfl, hown3, hb3⟩; obtain ⟨A3, c3, rfl, _, _⟩ := own_form hown3; have HO3 := Lib.hid hown3; have HB3 := Lib.hid hb3; have HB13 : Hid (Below W.heap.size W w3) := bmore HB12.out (Nat.le_refl _) hb3; have htop3 := (HB13.out.block r htl).trans HAT.out.top; have htw3 : r < w3.heap.size := (Array.getElem?_eq_some_iff.1 htop3).1; have htf3 := frozen_of_row w3 r 1 _ _ htop3; have htz3 := cell_of_row w3 r 1 _ _ _ htop3; clear htop3 hown3 hb3))
  have HM : Hid (MidAt W (w3.setCell ⟨r, 1, none⟩ (.slice A3 (n1 + m) c3)) r A0 n0 c0 A3 (n1 + m) c3 A2 n2 c2 T.fst (T.add ++ zs) A5 n5 c5 P B6 m6 d6 Q) := by
    have hcg : Chg [r] w3 (w3.setCell ⟨r, 1, none⟩ (.slice A3 (n1 + m) c3)) := (Chg.refl _ _).setCell (.inl (by simp)) _
    have hs1 := HB1.out.size
    have hs2 := HB2.out.size
    have hrP : w3.ownsRow W.heap.size 53 3 (.slice A5 n5 c5) n5 (pcs P) := own_below (own_below HSI.out.1 HB2.out fun k hk => (HSI.out.1.lt k hk).2) HB3.out fun k hk => Nat.lt_of_lt_of_le (HSI.out.1.lt k hk).2 hs2
    have hrQ : w3.ownsRow w1.heap.size 53 3 (.slice B6 m6 d6) m6 (pcs Q) := own_below HSQ.out HB3.out fun k hk => (HSQ.out.lt k hk).2
    have hlt0 : ∀ g ∈ blk A0, g < W.heap.size := blk_lt HAT.out.r0
    have hr0 : r ∉ blk A0 := fun hm => HAT.out.nd (by simp [hm])
    refine ⟨heap_setCell_same w3 r 1 _ _ _ ((HB13.out.block r htl).trans HAT.out.top), own_keep (own_below HAT.out.r0 HB13.out fun k hk => (HAT.out.r0.lt k hk).2) hcg fun g hg hm => by simp at hm; subst hm; exact hr0 hg, own_lower (own_keep HO3.out hcg fun g hg hm => ?_) (Nat.zero_le _), own_keep hrP hcg fun g hg hm => ?_, own_keep (own_lower hrQ hs1) hcg fun g hg hm => ?_, (Chg.of_below (HB13.out)).trans hcg, hlt0, hr0, fun g hg => ?_, htl, fun g hg => ⟨fun hm => ?_, fun hm => ?_⟩⟩
    · have := blk_ge HO3.out (Nat.le_refl _) g hg; simp at hm; omega
    · have := blk_ge hrP (Nat.le_refl _) g hg; simp at hm; omega
    · have := blk_ge hrQ (Nat.le_refl _) g hg; simp at hm; omega
    · have := blk_ge HO3.out (Nat.le_refl _) g hg; omega
    · have := blk_lt HSI.out.1 g hg; have := blk_ge hrQ (Nat.le_refl _) g hm; omega
    · have := blk_lt HSI.out.1 g hg; have := blk_ge HO3.out (Nat.le_refl _) g hm; omega
  generalize hX : w3.setCell ⟨r, 1, none⟩ (.slice A3 (n1 + m) c3) = X at HM ⊢
  have HN5 : Hid (P.length = n5) := by have h1 := HM.out.rp.1; rw [pcs_len] at h1; show _ = _; omega
  have HM6 : Hid (Q.length = m6) := by have h1 := HM.out.rq.1; rw [pcs_len] at h1; show _ = _; omega
  have hn5b : n5 ≤ 1000 := by have := HPLen.out; have := HN5.out; omega
  have hm6b : m6 ≤ 1000 := by have := HQLen.out; have := HM6.out; omega
  clear hX HSI HSQ HB1 HB2 HB12 HB13 HO3 HB3 z1 z2 z1w1 z1w2 htw3 htf3 htz3 hw1 hw2 hw3 hf hg HAT H
  by_cases hm0 : m = 0
  · have hm0' : ((m : Int) == 0) = true := by simp; omega
    have HM0 := Lib.hid hm0
    clear hm0 hz0k hkm
    go_wp2_with (at_builtin; refine append_rds rfl (.tmp 136) (.tmp 137) 50 rfl W.heap.size 53 i0 _ 3 24 Try.underlying50 hi0 hz0 hz1 hz2 rfl (by omega) (.slice A5 n5 c5) n5 _ rfl HM.out.rp _ B6 m6 d6 (pcs Q) rfl (Rds.of_own HM.out.rq) (pcs_one _) (by simp only [maxLen]; omega) (by omega) HM.out.chg.size ?_; intro v8 w8 hown8 hg8 hat8; obtain ⟨A8, c8, rfl, _, _⟩ := own_form hown8; rw [← pcs_append] at hown8; have HM8 := Lib.hid (HM.out.front (Chg.of_grown hg8) hown8 (blk_own hat8)); have hlt8 : r < w8.heap.size := (Array.getElem?_eq_some_iff.1 HM8.out.top).1; have htf8 := frozen_of_row w8 r 2 _ _ HM8.out.top; have htz8 := cell_of_row w8 r 2 _ _ _ HM8.out.top; clear hown8 hg8 hat8)
    go_ret
    exact HM8.out.done (by rw [HS.out, if_pos HM0.out]) HOK'.out HG.out
  · have hm0' : ((m : Int) == 0) = false := by simp; omega
    have HM0 := Lib.hid hm0
    have hz0k' : (0 : Int) < (m : Int) := by omega
    clear hz0k hkm
    by_cases hn0 : n5 = 0
    · have HPN : Hid (P = []) := List.eq_nil_of_length_eq_zero (by rw [HN5.out]; exact hn0)
      subst hn0
      have HEX : Hid (extP P n1 m = P ++ [⟨true, n1, m⟩]) := by rw [HPN.out]; exact extP_nil n1 m
      go_wp2
      go_quiet (fail)
      have HMY := Lib.hid (HM.out.below (below_drewN (Below.refl _ _) nq))
      go_upto_region 19 with (at_builtin; refine append_rds rfl (.tmp 87) (.tmp 92) 50 rfl W.heap.size 53 i0 _ 3 24 Try.underlying50 hi0 hz0 hz1 hz2 rfl (by omega) (.slice A5 0 c5) 0 _ rfl (own_below HMY.out.rp ((Below.refl _ _).alloc (Nat.le_refl _) _) fun k hk => (HMY.out.rp.lt k hk).2) _ _ 1 1 (pcs [⟨true, n1, m⟩]) rfl (rds_pc1 _ _ _ _) (pcs_one _) (by simp only [maxLen]; omega) (by omega) (by have := HM.out.chg.size; simp; omega) ?_; intro v7 w7 hown7 hg7 hat7; obtain ⟨A9, c9, rfl, _, _⟩ := own_form hown7; rw [← pcs_append] at hown7; have HM7 := Lib.hid ((HMY.out.below ((Below.refl _ _).alloc (Nat.le_refl _) _)).front (Chg.of_grown hg7) hown7 (blk_own hat7)); clear hown7 hg7 hat7)
      go_wp2_with (at_builtin; refine append_rds rfl (.tmp 136) (.tmp 137) 50 rfl W.heap.size 53 i0 _ 3 24 Try.underlying50 hi0 hz0 hz1 hz2 rfl (by omega) (.slice A9 (0 + 1) c9) (0 + 1) _ rfl HM7.out.rp _ B6 m6 d6 (pcs Q) rfl (Rds.of_own HM7.out.rq) (pcs_one _) (by simp only [maxLen]; omega) (by omega) HM7.out.chg.size ?_; intro v8 w8 hown8 hg8 hat8; obtain ⟨A8, c8, rfl, _, _⟩ := own_form hown8; rw [← pcs_append] at hown8; have HM8 := Lib.hid (HM7.out.front (Chg.of_grown hg8) hown8 (blk_own hat8)); have hlt8 : r < w8.heap.size := (Array.getElem?_eq_some_iff.1 HM8.out.top).1; have htf8 := frozen_of_row w8 r 2 _ _ HM8.out.top; have htz8 := cell_of_row w8 r 2 _ _ _ HM8.out.top; clear hown8 hg8 hat8)
      go_ret
      exact HM8.out.done (by rw [HS.out, if_neg HM0.out, HEX.out]) HOK'.out HG.out
    · obtain ⟨j, hj⟩ : ∃ j, n5 = j + 1 := ⟨n5 - 1, by omega⟩
      have hjn : j < n5 := by omega
      obtain ⟨g, p, rfl, hg, hpm, HP, y0, y1, y2⟩ := prow_at (own_lower HM.out.rp (Nat.zero_le _)) hjn
      have hpf := (HPA.out p hpm).2
      obtain ⟨pa, pf, pl⟩ := p
      simp only at hpf y0 y1 y2
      have hwk : IntKind.i64.wrap ((n5 : Int) - 1) = (j : Int) := by rw [show (n5 : Int) - 1 = (j : Int) from by omega]; exact IntWalk.i64_in _ (by omega)
      have hwf : IntKind.i64.wrap ((pf : Int) + (pl : Int)) = ((pf + pl : Nat) : Int) := by rw [show (pf : Int) + (pl : Int) = ((pf + pl : Nat) : Int) from by omega]; exact IntWalk.i64_in _ (by omega)
      obtain ⟨s, hs⟩ : ∃ s, pf + pl = s := ⟨_, rfl⟩
      rw [hs] at hwf
      have hja : (0 : Int) ≤ (j : Int) := by omega
      have hjb : (j : Int) < (n5 : Int) := by omega
      have HJ : Hid (P.length = j + 1) := by rw [Hid, HN5.out]; exact hj
      have HSS := Lib.hid hs
      clear hs hpm hj
      cases pa with
      | false =>
        have HEX : Hid (extP P n1 m = P ++ [⟨true, n1, m⟩]) := extP_full_out HJ.out (by rw [HP.out]; simp)
        go_wp2
        go_quiet (fail)
        have HMY := Lib.hid (HM.out.below (below_drewN (Below.refl _ _) nq))
        go_upto_region 19 with (at_builtin; refine append_rds rfl (.tmp 87) (.tmp 92) 50 rfl W.heap.size 53 i0 _ 3 24 Try.underlying50 hi0 hz0 hz1 hz2 rfl (by omega) (.slice (some ⟨g, 0, none⟩) n5 c5) n5 _ rfl (own_below HMY.out.rp ((Below.refl _ _).alloc (Nat.le_refl _) _) fun k hk => (HMY.out.rp.lt k hk).2) _ _ 1 1 (pcs [⟨true, n1, m⟩]) rfl (rds_pc1 _ _ _ _) (pcs_one _) (by simp only [maxLen]; omega) (by omega) (by have := HM.out.chg.size; simp; omega) ?_; intro v7 w7 hown7 hg7 hat7; obtain ⟨A9, c9, rfl, _, _⟩ := own_form hown7; rw [← pcs_append] at hown7; have HM7 := Lib.hid ((HMY.out.below ((Below.refl _ _).alloc (Nat.le_refl _) _)).front (Chg.of_grown hg7) hown7 (blk_own hat7)); clear hown7 hg7 hat7)
        go_wp2_with (at_builtin; refine append_rds rfl (.tmp 136) (.tmp 137) 50 rfl W.heap.size 53 i0 _ 3 24 Try.underlying50 hi0 hz0 hz1 hz2 rfl (by omega) (.slice A9 (n5 + 1) c9) (n5 + 1) _ rfl HM7.out.rp _ B6 m6 d6 (pcs Q) rfl (Rds.of_own HM7.out.rq) (pcs_one _) (by simp only [maxLen]; omega) (by omega) HM7.out.chg.size ?_; intro v8 w8 hown8 hg8 hat8; obtain ⟨A8, c8, rfl, _, _⟩ := own_form hown8; rw [← pcs_append] at hown8; have HM8 := Lib.hid (HM7.out.front (Chg.of_grown hg8) hown8 (blk_own hat8)); have hlt8 : r < w8.heap.size := (Array.getElem?_eq_some_iff.1 HM8.out.top).1; have htf8 := frozen_of_row w8 r 2 _ _ HM8.out.top; have htz8 := cell_of_row w8 r 2 _ _ _ HM8.out.top; clear hown8 hg8 hat8)
        go_ret
        exact HM8.out.done (by rw [HS.out, if_neg HM0.out, HEX.out]) HOK'.out HG.out
      | true =>
        by_cases hsn : s = n1
        · have HEX : Hid (extP P n1 m = P.take j ++ [⟨true, pf, pl + m⟩] ++ P.drop (j + 1)) := extP_full_in HJ.out HP.out (HSS.out.trans hsn)
          subst hsn
          go_wp2
          go_quiet (fail)
          have HMY := Lib.hid (HM.out.below (below_drewN (Below.refl _ _) nq))
          have hwm : IntKind.i64.wrap ((pl : Int) + (m : Int)) = ((pl + m : Nat) : Int) := by rw [show (pl : Int) + (m : Int) = ((pl + m : Nat) : Int) from by omega]; exact IntWalk.i64_in _ (by omega)
          obtain ⟨q, hq⟩ : ∃ q, pl + m = q := ⟨_, rfl⟩
          rw [hq] at hwm HEX
          have fz : X.frozen? ⟨g, j * 3 + 2, none⟩ = false := own_free (own_lower HM.out.rp (Nat.zero_le _)) _ hjn
          have HM7 : Hid (MidAt W ((X.drewN nq).setCell ⟨g, j * 3 + 2, none⟩ (.int .i64 q)) r A0 n0 c0 A3 (s + m) c3 A2 n2 c2 T.fst (T.add ++ zs) (some ⟨g, 0, none⟩) n5 c5 (P.take j ++ [⟨true, pf, q⟩] ++ P.drop (j + 1)) B6 m6 d6 Q) := by
            have h7 := own_set2b HMY.out.rp hjn q
            rw [HP.out] at h7
            exact HMY.out.front ((Chg.refl _ _).setCell (.inl (by simp [blk])) _) h7 (fun g hg => .inl hg)
          clear hq
          go_upto_region 19 with fail
          generalize (X.drewN nq).setCell ⟨g, j * 3 + 2, none⟩ (.int .i64 q) = Z at *
          go_wp2_with (at_builtin; refine append_rds rfl (.tmp 136) (.tmp 137) 50 rfl W.heap.size 53 i0 _ 3 24 Try.underlying50 hi0 hz0 hz1 hz2 rfl (by omega) (.slice (some ⟨g, 0, none⟩) n5 c5) n5 _ rfl HM7.out.rp _ B6 m6 d6 (pcs Q) rfl (Rds.of_own HM7.out.rq) (pcs_one _) (by simp only [maxLen]; omega) (by omega) HM7.out.chg.size ?_; intro v8 w8 hown8 hg8 hat8; obtain ⟨A8, c8, rfl, _, _⟩ := own_form hown8; rw [← pcs_append] at hown8; have HM8 := Lib.hid (HM7.out.front (Chg.of_grown hg8) hown8 (blk_own hat8)); have hlt8 : r < w8.heap.size := (Array.getElem?_eq_some_iff.1 HM8.out.top).1; have htf8 := frozen_of_row w8 r 2 _ _ HM8.out.top; have htz8 := cell_of_row w8 r 2 _ _ _ HM8.out.top; clear hown8 hg8 hat8)
          go_ret
          exact HM8.out.done (by rw [HS.out, if_neg HM0.out, HEX.out]) HOK'.out HG.out
        · have HEX : Hid (extP P n1 m = P ++ [⟨true, n1, m⟩]) := extP_full_out HJ.out (by rw [HP.out]; have := HSS.out; simp; omega)
          have hsn1 : ((s : Int) == (n1 : Int)) = false := by simp; omega
          go_wp2
          go_quiet (fail)
          have HMY := Lib.hid (HM.out.below (below_drewN (Below.refl _ _) nq))
          go_upto_region 19 with (at_builtin; refine append_rds rfl (.tmp 87) (.tmp 92) 50 rfl W.heap.size 53 i0 _ 3 24 Try.underlying50 hi0 hz0 hz1 hz2 rfl (by omega) (.slice (some ⟨g, 0, none⟩) n5 c5) n5 _ rfl (own_below HMY.out.rp ((Below.refl _ _).alloc (Nat.le_refl _) _) fun k hk => (HMY.out.rp.lt k hk).2) _ _ 1 1 (pcs [⟨true, n1, m⟩]) rfl (rds_pc1 _ _ _ _) (pcs_one _) (by simp only [maxLen]; omega) (by omega) (by have := HM.out.chg.size; simp; omega) ?_; intro v7 w7 hown7 hg7 hat7; obtain ⟨A9, c9, rfl, _, _⟩ := own_form hown7; rw [← pcs_append] at hown7; have HM7 := Lib.hid ((HMY.out.below ((Below.refl _ _).alloc (Nat.le_refl _) _)).front (Chg.of_grown hg7) hown7 (blk_own hat7)); clear hown7 hg7 hat7)
          go_wp2_with (at_builtin; refine append_rds rfl (.tmp 136) (.tmp 137) 50 rfl W.heap.size 53 i0 _ 3 24 Try.underlying50 hi0 hz0 hz1 hz2 rfl (by omega) (.slice A9 (n5 + 1) c9) (n5 + 1) _ rfl HM7.out.rp _ B6 m6 d6 (pcs Q) rfl (Rds.of_own HM7.out.rq) (pcs_one _) (by simp only [maxLen]; omega) (by omega) HM7.out.chg.size ?_; intro v8 w8 hown8 hg8 hat8; obtain ⟨A8, c8, rfl, _, _⟩ := own_form hown8; rw [← pcs_append] at hown8; have HM8 := Lib.hid (HM7.out.front (Chg.of_grown hg8) hown8 (blk_own hat8)); have hlt8 : r < w8.heap.size := (Array.getElem?_eq_some_iff.1 HM8.out.top).1; have htf8 := frozen_of_row w8 r 2 _ _ HM8.out.top; have htz8 := cell_of_row w8 r 2 _ _ _ HM8.out.top; clear hown8 hg8 hat8)
          go_ret
          exact HM8.out.done (by rw [HS.out, if_neg HM0.out, HEX.out]) HOK'.out HG.out
end Go.Proofs.Ytpfceochplghlaa
