/- The walk of PieceFits. -/
import Derived.Test.YtpfceochplghlaaRi
namespace Go.Proofs.Ytpfceochplghlaa
open Go.RowKit
attribute [local go_sem ↓] Go.wp_at_zero Go.wp_at_succ

theorem Rds.keepq {w w' : World} {z n K : Nat} {A : Option Addr} {xs : List Value} (h : Rds w w.heap.size z A n xs) (hA : ∀ g ∈ blk A, K ≤ g) (hq : ∀ q, K ≤ q → q < w.heap.size → w'.heap[q]? = w.heap[q]?) (hs : w.heap.size ≤ w'.heap.size) : Rds w' w'.heap.size z A n xs :=
  ⟨h.1, fun j hj => by
    obtain ⟨ad, e, hb, hv⟩ := h.2 j hj
    refine ⟨ad, e, by omega, (World.cell?_of_block ?_).trans hv⟩
    rw [block_add']
    exact hq _ (hA _ (by rw [e]; simp [blk])) hb⟩

set_option maxRecDepth 100000 in
set_option maxHeartbeats 4000000 in
theorem fits_walk (W : World) (A0 E : Option Addr) (n0 c0 l cl : Nat) (xs : List Int) (L : List Dd) (hx : Rds W W.heap.size 1 A0 n0 (xs.map (Value.int .i32))) (hc : n0 ≤ c0) (hd : RdD W W.heap.size E l L) :
    Calls Try.prog 4 #[.slice A0 n0 c0, .slice E l cl] W fun e w' => e = .returned (.bool true) ∧ Below W.heap.size W w' := by
  have HC1 := cut_300 A0 n0 c0 hc
  have HX := Lib.hid (hx.front_ints (m := min n0 300) (by omega))
  have hn3 : min n0 300 ≤ 300 := by omega
  obtain ⟨n', en⟩ : ∃ n', min n0 300 = n' := ⟨_, rfl⟩
  rw [en] at HC1 HX hn3
  obtain ⟨S0, hS⟩ : ∃ S, cleanL (xs.take n') = S := ⟨_, rfl⟩
  have HMS : Hid (mayB S0 = true) := by rw [← hS]; exact may_clean _
  have HES := Lib.hid hS
  have HD := Lib.hid hd
  clear hx hc en hS hd
  go_enter Try.func4, Try.ntmps4
  go_upto_region 6 with (first
    | (go_at_call 17; (with_reducible refine (HC1 _).mono ?_); rintro e w' ⟨rfl, rfl⟩)
    | (go_at_call 16; (with_reducible refine (clean_any W A0 n' c0 (xs.take n') HX.out (by omega)).mono ?_); rintro e w1 ⟨v1, rfl, hown1, hb1⟩; obtain ⟨A1, c1, rfl, _, _⟩ := own_form hown1; have HO1 : Hid (w1.ownsRow W.heap.size 21 1 (.slice A1 n' c1) n' (S0.map (Value.int .i32))) := (by rw [← HES.out]; exact hown1); have HB1 := Lib.hid hb1; clear hown1 hb1)
    | (go_at_call 10; (with_reducible refine (new_ok w1 A1 n' c1 S0 HMS (by omega) (Rds.of_own HO1.out)).mono ?_); rintro e w2 ⟨t, F, rfl, hin2, hF2, hb2⟩; have HIN2 := Lib.hid hin2; have HF2 := Lib.hid hF2; have HB12 := Lib.hid hb2; have HB2 : Hid (Below W.heap.size W w2) := (bmore HB1.out (Nat.le_refl _) hb2); clear hin2 hF2 hb2)
    | (go_at_call 18; (with_reducible refine (rnew_ok w2 A1 n' c1 S0 HMS (by omega) (((Rds.of_own HO1.out).below HB12.out).more HB12.out.size)).mono ?_); rintro e w3 ⟨r, G, rfl, hin3, hG3, hb3⟩; have HT3 : Hid (PairAt W.heap.size w3 t r) := ⟨F, G, _, HIN2.out.below hb3, hin3, fun g hg => Nat.le_trans HB1.out.size (HF2.out g hg), fun g hg => Nat.le_trans HB2.out.size (hG3 g hg), fun g hg hg' => by have := HIN2.out.lt g hg; have := hG3 g hg'; omega⟩; have HB3 : Hid (Below W.heap.size W w3) := (bmore HB2.out (Nat.le_refl _) hb3); clear hin3 hG3 hb3))
  clear HO1 HB1 HB2 HB12 HIN2 HF2
  go_wp2
  go_loopw [9] (fun x9 wr => ∃ (i : Nat) (w0 : World), w0 = wr ∧ i ≤ l ∧ x9 = .int .i64 i ∧ Hid (PairAt W.heap.size wr t r) ∧ Hid (Below W.heap.size W wr)) (fun x9 _ => l - (intOf x9).toNat)
  case atStart => exact ⟨0, _, rfl, Nat.zero_le _, rfl, HT3.out, HB3.out⟩
  case round =>
    obtain ⟨i, wr, rfl, hi, rfl, HT, HB⟩ := hrel
    by_cases hlt : i < l
    · by_cases hlt4 : i < 30
      · obtain ⟨ad, m, rfl, hadB, HM, y0, y1, y2, y3, hpt⟩ := (HD.out.below HB.out).at_ hlt
        obtain ⟨how, pl, ct, B, m, d, zs⟩ := m
        simp only at y0 y1 y2 y3
        have HPT : Hid (Rds wr W.heap.size 1 B m (zs.map (Value.int .i32))) := hpt.1
        have hmd := hpt.2.1
        simp only at hmd
        have hJ1 : (0 : Int) ≤ (i : Int) ∧ (i : Int) < (l : Int) := by omega
        obtain ⟨hJ1a, hJ1b⟩ := hJ1
        have HC5 := cut_60 B m d hmd
        have HPF := Lib.hid (HPT.out.front_ints (m := min m 60) (by omega))
        have hm5 : min m 60 ≤ 60 := by omega
        obtain ⟨m', em⟩ : ∃ m', min m 60 = m' := ⟨_, rfl⟩
        rw [em] at HC5 HPF hm5
        clear em hpt hmd
        have HSd : Hid (∀ w, Below W.heap.size wr w → w.cell? ⟨(ad.add (i * 4)).block, (ad.add (i * 4)).off + 1, none⟩ = some (.int .i64 pl) ∧ w.cell? ⟨(ad.add (i * 4)).block, (ad.add (i * 4)).off + 2, none⟩ = some (.int .i64 ct) ∧ w.cell? ⟨(ad.add (i * 4)).block, (ad.add (i * 4)).off + 3, none⟩ = some (.slice B m d)) := fun w hb => ⟨(hb.cell (p := ⟨(ad.add (i * 4)).block, (ad.add (i * 4)).off + 1, none⟩) hadB).trans y1, (hb.cell (p := ⟨(ad.add (i * 4)).block, (ad.add (i * 4)).off + 2, none⟩) hadB).trans y2, (hb.cell (p := ⟨(ad.add (i * 4)).block, (ad.add (i * 4)).off + 3, none⟩) hadB).trans y3⟩
        have hS0 := HSd.out wr (Below.refl _ _)
        clear y0 y1 y2 y3
        have HNr : Hid (W.heap.size ≤ wr.heap.size) := HB.out.size
        have HPall : Hid (∀ w, Below wr.heap.size wr w → Rds w w.heap.size 1 B m' ((zs.take m').map (Value.int .i32))) := fun w h => (HPF.out.below (h.mono HNr.out)).more (Nat.le_trans HNr.out h.size)
        go_upto_region 9 with fail
        go_cut [10] (fun s8 wx => ∃ (q a k m6 : Nat) (A6 : Option Addr) (c6 : Nat) (B6 : Option Addr) (d6 : Nat), s8 = .pointer (some ⟨q, 0, none⟩) ∧ Hid (m6 ≤ 60) ∧ Hid (ChAt wr.heap.size wx q a k m6 A6 c6 B6 d6 ((cleanL (zs.take m')).take m6)) ∧ Hid (Below wr.heap.size wr wx))
        case first =>
          go_region_held3 (fun w' => w'.cell? ⟨(ad.add (i * 4)).block, (ad.add (i * 4)).off + 1, none⟩ = some (.int .i64 pl) ∧ w'.cell? ⟨(ad.add (i * 4)).block, (ad.add (i * 4)).off + 2, none⟩ = some (.int .i64 ct) ∧ w'.cell? ⟨(ad.add (i * 4)).block, (ad.add (i * 4)).off + 3, none⟩ = some (.slice B m d)) (first | exact hS6 | exact hS5 | exact hS4 | exact hS0 | exact HSd.out _ (Below.mono (by repeat (first | exact Below.refl _ _ | refine Below.setCell ?_ (by first | exact Nat.le_refl _ | exact HB5.out.size | exact HB4.out.size) _ | exact HB6.out | exact HB5.out | exact HB4.out | refine Below.drew ?_ | refine Below.alloc ?_ (by first | exact Nat.le_refl _ | exact HB6.out.size | exact HB5.out.size | exact HB4.out.size | (simp; done)) _)) HNr.out))
            (first
              | (go_at_call 20; (with_reducible refine (pair_rtext W.heap.size _ t r (HT.out.below (by repeat (first | exact Below.refl _ _ | refine Below.setCell ?_ (by first | exact Nat.le_refl _ | exact HB5.out.size | exact HB4.out.size) _ | exact HB6.out | exact HB5.out | exact HB4.out | refine Below.drew ?_ | refine Below.alloc ?_ (by first | exact Nat.le_refl _ | exact HB6.out.size | exact HB5.out.size | exact HB4.out.size | (simp; done)) _)))).mono ?_); rintro e w4 ⟨⟨A4, n4, c4, zs4, rfl, hr4, hc4, hn4⟩, hb4⟩; have HN4 := Lib.hid hn4; have HB4 : Hid (Below wr.heap.size wr w4) := bmore (by repeat (first | exact Below.refl _ _ | refine Below.setCell ?_ (by first | exact Nat.le_refl _ | exact HB5.out.size | exact HB4.out.size) _ | exact HB6.out | exact HB5.out | exact HB4.out | refine Below.drew ?_ | refine Below.alloc ?_ (by first | exact Nat.le_refl _ | exact HB6.out.size | exact HB5.out.size | exact HB4.out.size | (simp; done)) _)) (Nat.le_refl _) hb4; have HR4 := Lib.hid hr4; have hS4 := HSd.out w4 (HB4.out.mono HNr.out); (try (have hq4 : Hid (w4.heap[wr.heap.size]? = some zbox) := keep_box hb4 (heap_alloc_new wr zbox))); clear hb4 hr4)
              | (go_at_call 17; (with_reducible refine (HC5 _).mono ?_); rintro e w' ⟨rfl, rfl⟩)
              | (go_at_call 16; (with_reducible refine (clean_any _ B m' d (zs.take m') (HPall.out _ (by repeat (first | exact Below.refl _ _ | refine Below.setCell ?_ (by first | exact Nat.le_refl _ | exact HB5.out.size | exact HB4.out.size) _ | exact HB6.out | exact HB5.out | exact HB4.out | refine Below.drew ?_ | refine Below.alloc ?_ (by first | exact Nat.le_refl _ | exact HB6.out.size | exact HB5.out.size | exact HB4.out.size | (simp; done)) _))) (by omega)).mono ?_); rintro e w5 ⟨v5, rfl, hown5, hb5⟩; have HB5 : Hid (Below wr.heap.size wr w5) := bmore (by repeat (first | exact Below.refl _ _ | refine Below.setCell ?_ (by first | exact Nat.le_refl _ | exact HB5.out.size | exact HB4.out.size) _ | exact HB6.out | exact HB5.out | exact HB4.out | refine Below.drew ?_ | refine Below.alloc ?_ (by first | exact Nat.le_refl _ | exact HB6.out.size | exact HB5.out.size | exact HB4.out.size | (simp; done)) _)) (Nat.le_refl _) hb5; have HB45 : Hid (Below w4.heap.size w4 w5) := bmore (by repeat (first | exact Below.refl _ _ | refine Below.drew ?_ | refine Below.alloc ?_ (by first | exact Nat.le_refl _ | (simp; done)) _)) (Nat.le_refl _) hb5; have hS5 := HSd.out w5 (HB5.out.mono HNr.out); obtain ⟨A5, c5, rfl, _, _⟩ := own_form hown5; have HR5 := Lib.hid (Rds.of_own hown5); (try (have hq5 : Hid (w5.heap[wr.heap.size]? = some zbox) := keep_box hb5 hq4.out)); (try (have hq5 : Hid (w5.heap[w4.heap.size]? = some zbox) := keep_box hb5 (heap_alloc_new w4 zbox))); clear hb5 hown5)
              | (go_at_call 19; (with_reducible refine (fit_any _ pl ct A4 A5 n4 c4 m' c5 zs4 (cleanL (zs.take m')) ((HR4.out.below (bmore HB45.out (Nat.le_refl _) (by repeat (first | exact Below.refl _ _ | refine Below.drew ?_ | refine Below.alloc ?_ (by first | exact Nat.le_refl _ | (simp; done)) _)))).more (bmore HB45.out (Nat.le_refl _) (by repeat (first | exact Below.refl _ _ | refine Below.drew ?_ | refine Below.alloc ?_ (by first | exact Nat.le_refl _ | (simp; done)) _))).size) ((HR5.out.below (by repeat (first | exact Below.refl _ _ | refine Below.drew ?_ | refine Below.alloc ?_ (by first | exact Nat.le_refl _ | (simp; done)) _))).more (Below.size (B := w5.heap.size) (by repeat (first | exact Below.refl _ _ | refine Below.drew ?_ | refine Below.alloc ?_ (by first | exact Nat.le_refl _ | (simp; done)) _)))) hc4 HN4.out (by omega)).mono ?_); rintro e w6 ⟨a, k, m6, A6, c6, B6, d6, rfl, hea, hek, hak, hm6, hr6, hg6, hb6⟩; clear hea hek; have HB6 : Hid (Below wr.heap.size wr w6) := bmore (by repeat (first | exact Below.refl _ _ | refine Below.setCell ?_ (by first | exact Nat.le_refl _ | exact HB5.out.size | exact HB4.out.size) _ | exact HB6.out | exact HB5.out | exact HB4.out | refine Below.drew ?_ | refine Below.alloc ?_ (by first | exact Nat.le_refl _ | exact HB6.out.size | exact HB5.out.size | exact HB4.out.size | (simp; done)) _)) (Nat.le_refl _) hb6; have HG6 := Lib.hid hg6; have HR6 := Lib.hid hr6; have HM6 : Hid (m6 ≤ m') := (by show m6 ≤ m'; omega); have hS6 := HSd.out w6 (HB6.out.mono HNr.out); (try (have hq6 : Hid (w6.heap[wr.heap.size]? = some zbox) := keep_box hb6 hq5.out)); (try (have hq6 : Hid (w6.heap[w4.heap.size]? = some zbox) := keep_box hb6 hq5.out)); (try (have hq6 : Hid (w6.heap[w5.heap.size]? = some zbox) := keep_box hb6 (heap_alloc_new w5 zbox))); (try (have hbf := box_facts hq6.out; obtain ⟨bf0, bf1, bf2, bf3, bf4, bf5, bf6⟩ := hbf)); clear hb6 hr6 hg6 hak hm6))
          all_goals
            go_wp2_with fail
            go_meet
            first
              | (have h := ch_new (N := wr.heap.size) (w0 := wr) (a := a) (k := k) (A6 := A6) (c6 := c6) (d6 := d6) HR6.out HG6.out (by first | exact HB5.out.size | (have := HB5.out.size; simp; omega)) HB6.out (Nat.le_refl _); exact ⟨_, a, k, m6, A6, c6, B6, d6, rfl, Nat.le_trans HM6.out hm5, h.1, h.2⟩)
              | (have h := ch_set (N := wr.heap.size) (w0 := wr) (q := w5.heap.size) (a := a) (k := k) (A6 := A6) (c6 := c6) (d6 := d6) HB5.out.size hq6.out HR6.out HG6.out (by simp) HB6.out (Nat.le_refl _); exact ⟨_, a, k, m6, A6, c6, B6, d6, rfl, Nat.le_trans HM6.out hm5, h.1, h.2⟩)
              | (have h := ch_set (N := wr.heap.size) (w0 := wr) (q := w4.heap.size) (a := a) (k := k) (A6 := A6) (c6 := c6) (d6 := d6) HB4.out.size hq6.out HR6.out HG6.out (box_facts hq5.out).1 HB6.out (Nat.le_refl _); exact ⟨_, a, k, m6, A6, c6, B6, d6, rfl, Nat.le_trans HM6.out hm5, h.1, h.2⟩)
              | (have h := ch_set (N := wr.heap.size) (w0 := wr) (q := wr.heap.size) (a := a) (k := k) (A6 := A6) (c6 := c6) (d6 := d6) (Nat.le_refl _) hq6.out HR6.out HG6.out (box_facts hq5.out).1 HB6.out (Nat.le_refl _); exact ⟨_, a, k, m6, A6, c6, B6, d6, rfl, Nat.le_trans HM6.out hm5, h.1, h.2⟩)
        case rest =>
          obtain ⟨q, a, k, m6, A6, c6, B6, d6, rfl, HM60, HCH, HBW⟩ := hcut
          have hcq := HCH.out.2.1
          have x0 := cell_of_row wc q 0 _ _ _ hcq
          have x1 := cell_of_row wc q 1 _ _ _ hcq
          have x2 := cell_of_row wc q 2 _ _ _ hcq
          have HCQ := Lib.hid hcq
          have xlt : q < wc.heap.size := (Array.getElem?_eq_some_iff.1 hcq).1
          have HQ := Lib.hid HCH.out.1
          obtain ⟨zz, hzz⟩ : ∃ zz, (cleanL (zs.take m')).take m6 = zz := ⟨_, rfl⟩
          rw [hzz] at HCH
          have HRB : Hid (Rds wc wc.heap.size 1 B6 m6 (zz.map (Value.int .i32))) := HCH.out.2.2.1
          have HGB : Hid (∀ g ∈ blk B6, wr.heap.size ≤ g) := HCH.out.2.2.2
          have hm663 : m6 ≤ 9223372036854775807 := by have := HM60.out; omega
          obtain ⟨v, hst⟩ := pair_tsp W.heap.size wr wc.drew t r (a : Int) (k : Int) B6 m6 d6 zz HT.out HBW.out.drew HNr.out HRB.out hm663 fun _ g hg => .inr (HGB.out g hg)
          have HST := Lib.hid hst
          have HWN : Hid (Below W.heap.size W wc) := HB.out.trans (HBW.out.mono HNr.out)
          clear hcq hS0 hzz hst
          go_upto_region 10 with fail
          go_region_held3 (fun w' => w'.cell? ⟨q, 0, none⟩ = some (.int .i64 a) ∧ w'.cell? ⟨q, 1, none⟩ = some (.slice A6 k c6) ∧ w'.cell? ⟨q, 2, none⟩ = some (.slice B6 m6 d6)) (first | exact hS9 | exact hS8 | exact hS7 | exact ⟨x0, x1, x2⟩)
            (first
              | (go_at_call 12; (with_reducible refine HST.out.mono ?_); rintro e w7 ⟨rfl, hh7, hb7, hk7⟩; have HH7 := Lib.hid hh7; have HK7 := Lib.hid hk7; have HB7 : Hid (Below W.heap.size W w7) := (HWN.out.drew).trans hb7; have HS7 : Hid (wc.heap.size ≤ w7.heap.size) := hb7.size; have HRB7 : Hid (Rds w7 w7.heap.size 1 B6 m6 (zz.map (Value.int .i32))) := Rds.keepq HRB.out HGB.out hk7 hb7.size; have HNW7 : Hid (W.heap.size ≤ w7.heap.size) := Nat.le_trans HNr.out (Nat.le_trans HBW.out.size HS7.out); have hq7 : Hid (w7.heap[q]? = some (.cells #[.int .i64 a, .slice A6 k c6, .slice B6 m6 d6] 40 (0, 0))) := (hk7 q HQ.out xlt).trans HCQ.out; have hS7 : w7.cell? ⟨q, 0, none⟩ = some (.int .i64 a) ∧ w7.cell? ⟨q, 1, none⟩ = some (.slice A6 k c6) ∧ w7.cell? ⟨q, 2, none⟩ = some (.slice B6 m6 d6) := ⟨cell_of_row w7 q 0 _ _ _ hq7.out, cell_of_row w7 q 1 _ _ _ hq7.out, cell_of_row w7 q 2 _ _ _ hq7.out⟩; clear hh7 hb7 hk7)
              | (go_at_call 21; (with_reducible refine (pair_rsp W.heap.size wr w7 t r (a : Int) (k : Int) B6 m6 d6 zz v HH7.out HT.out HNW7.out HRB7.out hm663).mono ?_); rintro e w8 ⟨rfl, hp8, hb8, hk8⟩; have HP8 := Lib.hid hp8; have HB8 : Hid (Below W.heap.size W w8) := HB7.out.trans hb8; have hq8 : Hid (w8.heap[q]? = some (.cells #[.int .i64 a, .slice A6 k c6, .slice B6 m6 d6] 40 (0, 0))) := (hk8 q HQ.out (Nat.lt_of_lt_of_le xlt HS7.out)).trans hq7.out; have hS8 : w8.cell? ⟨q, 0, none⟩ = some (.int .i64 a) ∧ w8.cell? ⟨q, 1, none⟩ = some (.slice A6 k c6) ∧ w8.cell? ⟨q, 2, none⟩ = some (.slice B6 m6 d6) := ⟨cell_of_row w8 q 0 _ _ _ hq8.out, cell_of_row w8 q 1 _ _ _ hq8.out, cell_of_row w8 q 2 _ _ _ hq8.out⟩; clear hp8 hb8 hk8)
              | (go_at_call 22; (with_reducible refine (pair_same W.heap.size w8 t r HP8.out).mono ?_); rintro e w9 ⟨rfl, hb9⟩; have HP9 := Lib.hid (HP8.out.below hb9); have HB9 : Hid (Below W.heap.size W w9) := bmore HB8.out (Nat.le_refl _) hb9; have hq9 : Hid (w9.heap[q]? = some (.cells #[.int .i64 a, .slice A6 k c6, .slice B6 m6 d6] 40 (0, 0))) := (hb9.block q (Array.getElem?_eq_some_iff.1 hq8.out).1).trans hq8.out; have hS9 : w9.cell? ⟨q, 0, none⟩ = some (.int .i64 a) ∧ w9.cell? ⟨q, 1, none⟩ = some (.slice A6 k c6) ∧ w9.cell? ⟨q, 2, none⟩ = some (.slice B6 m6 d6) := ⟨cell_of_row w9 q 0 _ _ _ hq9.out, cell_of_row w9 q 1 _ _ _ hq9.out, cell_of_row w9 q 2 _ _ _ hq9.out⟩; clear hb9))
          all_goals
            clear HST HWN HCQ HCH HBW HB HT x0 x1 x2 hS7 hS8 hS9 HPall HSd HPF HPT HNr
            go_wp2
            go_roundw
            case rel => exact ⟨i + 1, _, rfl, by omega, by go_num, HP9.out, HB9.out⟩
            case measure => simp [intOf]; omega
      · have hge : ¬ (i : Int) < 30 := by omega
        go_wp2_with (go_at_call 15; (with_reducible refine (known_any wr).mono ?_); rintro e w11 ⟨rfl, hb11⟩; have HB11 := Lib.hid hb11; clear hb11)
        go_ret
        exact ⟨rfl, bmore HB.out (Nat.le_refl _) HB11.out⟩
    · go_wp2_with (go_at_call 15; (with_reducible refine (known_any wr).mono ?_); rintro e w11 ⟨rfl, hb11⟩; have HB11 := Lib.hid hb11; clear hb11)
      go_ret
      exact ⟨rfl, bmore HB.out (Nat.le_refl _) HB11.out⟩
end Go.Proofs.Ytpfceochplghlaa
