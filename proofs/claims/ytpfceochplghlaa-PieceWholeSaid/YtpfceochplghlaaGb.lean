/- The walk of PieceWhole. -/
import Derived.Test.YtpfceochplghlaaGa
namespace Go.Proofs.Ytpfceochplghlaa
open Go.RowKit
attribute [local go_sem ↓] Go.wp_at_zero Go.wp_at_succ

set_option maxRecDepth 100000 in
set_option maxHeartbeats 4000000 in
theorem whole_walk (W : World) (A0 E : Option Addr) (n0 c0 l cl : Nat) (xs : List Int) (L : List Dd) (hx : Rds W W.heap.size 1 A0 n0 (xs.map (Value.int .i32))) (hc : n0 ≤ c0) (hd : RdD W W.heap.size E l L) :
    Calls Try.prog 6 #[.slice A0 n0 c0, .slice E l cl] W fun e w' => e = .returned (.bool true) ∧ Below W.heap.size W w' := by
  have HC1 := cut_300 A0 n0 c0 hc
  have HX := Lib.hid (hx.front_ints (m := min n0 300) (by omega))
  have hn3 : min n0 300 ≤ 300 := by omega
  obtain ⟨n', en⟩ : ∃ n', min n0 300 = n' := ⟨_, rfl⟩
  rw [en] at HC1 HX hn3
  obtain ⟨S0, hS⟩ : ∃ S, cleanL (xs.take n') = S := ⟨_, rfl⟩
  have HMS : Hid (mayB S0 = true) := by rw [← hS]; exact may_clean _
  have HES := Lib.hid hS
  have HD := Lib.hid hd
  clear hx hc en hS hd
  go_enter Try.func6, Try.ntmps6
  go_upto_region 5 with (first
    | (go_at_call 17; (with_reducible refine (HC1 _).mono ?_); rintro e w' ⟨rfl, rfl⟩)
    | (go_at_call 16; (with_reducible refine (clean_any W A0 n' c0 (xs.take n') HX.out (by omega)).mono ?_); rintro e w1 ⟨v1, rfl, hown1, hb1⟩; obtain ⟨A1, c1, rfl, _, _⟩ := own_form hown1; have HO1 : Hid (w1.ownsRow W.heap.size 21 1 (.slice A1 n' c1) n' (S0.map (Value.int .i32))) := (by rw [← HES.out]; exact hown1); have HB1 := Lib.hid hb1; clear hown1 hb1)
    | (go_at_call 10; (with_reducible refine (whole_new W.heap.size w1 A1 n' c1 S0 HMS (by omega) (Rds.of_own HO1.out) HB1.out.size).mono ?_); rintro e w3 ⟨t, rfl, htp, hb3⟩; have HT3 := Lib.hid htp; have HB3 : Hid (Below W.heap.size W w3) := (bmore HB1.out (Nat.le_refl _) hb3); clear htp hb3))
  clear HO1 HB1
  go_wp2
  go_loopw [7] (fun x7 wr => ∃ (i n k : Nat) (w0 : World), w0 = wr ∧ i ≤ l ∧ x7 = .int .i64 i ∧ k ≤ 50 * i ∧ i ≤ 30 ∧ Hid (WholeAt W.heap.size wr t n' n k) ∧ Hid (Below W.heap.size W wr)) (fun x7 _ => l - (intOf x7).toNat)
  case atStart => exact ⟨0, n', 0, _, rfl, Nat.zero_le _, rfl, Nat.le_refl _, Nat.zero_le _, HT3.out, HB3.out⟩
  case round =>
    obtain ⟨i, n, k1, wr, rfl, hi, rfl, hk1, hi30, HT, HB⟩ := hrel
    by_cases hlt : i < l
    · by_cases hlt4 : i < 30
      · obtain ⟨ad, m, rfl, hadB, HM, y0, y1, y2, y3, hpt⟩ := (HD.out.below HB.out).at_ hlt
        obtain ⟨how, pl, ct, B, m, d, zs⟩ := m
        simp only at y0 y1 y2 y3
        have HPT : Hid (Rds wr W.heap.size 1 B m (zs.map (Value.int .i32))) := hpt.1
        have hmd := hpt.2.1
        simp only at hmd
        have hJ1 : (0 : Int) ≤ (i : Int) ∧ (i : Int) < (l : Int) := by omega
        obtain ⟨hJ1a, hJ1b⟩ := hJ1
        have HC5 := cut_50 B m d hmd
        have HPF := Lib.hid (HPT.out.front_ints (m := min m 50) (by omega))
        have hm5 : min m 50 ≤ 50 := by omega
        obtain ⟨m', em⟩ : ∃ m', min m 50 = m' := ⟨_, rfl⟩
        rw [em] at HC5 HPF hm5
        clear em hpt hmd
        have HSd : Hid (∀ w, Below W.heap.size wr w → w.cell? ⟨(ad.add (i * 4)).block, (ad.add (i * 4)).off + 1, none⟩ = some (.int .i64 pl) ∧ w.cell? ⟨(ad.add (i * 4)).block, (ad.add (i * 4)).off + 2, none⟩ = some (.int .i64 ct) ∧ w.cell? ⟨(ad.add (i * 4)).block, (ad.add (i * 4)).off + 3, none⟩ = some (.slice B m d)) := fun w hb => ⟨(hb.cell (p := ⟨(ad.add (i * 4)).block, (ad.add (i * 4)).off + 1, none⟩) hadB).trans y1, (hb.cell (p := ⟨(ad.add (i * 4)).block, (ad.add (i * 4)).off + 2, none⟩) hadB).trans y2, (hb.cell (p := ⟨(ad.add (i * 4)).block, (ad.add (i * 4)).off + 3, none⟩) hadB).trans y3⟩
        have hS0 := HSd.out wr (Below.refl _ _)
        clear y0 y1 y2 y3
        have HNr : Hid (W.heap.size ≤ wr.heap.size) := HB.out.size
        have HN1 : Hid (n ≤ 1000) := HT.out.le
        have HPall : Hid (∀ w, Below wr.heap.size wr w → Rds w w.heap.size 1 B m' ((zs.take m').map (Value.int .i32))) := fun w h => (HPF.out.below (h.mono HNr.out)).more (Nat.le_trans HNr.out h.size)
        go_upto_region 8 with fail
        go_cut [8] (fun s8 wx => ∃ (q a k m6 : Nat) (A6 : Option Addr) (c6 : Nat) (B6 : Option Addr) (d6 : Nat), s8 = .pointer (some ⟨q, 0, none⟩) ∧ Hid (a + k ≤ n) ∧ Hid (m6 = min m' (1000 - (n - k))) ∧ Hid (ChAt wr.heap.size wx q a k m6 A6 c6 B6 d6 ((cleanL (zs.take m')).take m6)) ∧ Hid (Below wr.heap.size wr wx))
        case first =>
          go_region_held3 (fun w' => w'.cell? ⟨(ad.add (i * 4)).block, (ad.add (i * 4)).off + 1, none⟩ = some (.int .i64 pl) ∧ w'.cell? ⟨(ad.add (i * 4)).block, (ad.add (i * 4)).off + 2, none⟩ = some (.int .i64 ct) ∧ w'.cell? ⟨(ad.add (i * 4)).block, (ad.add (i * 4)).off + 3, none⟩ = some (.slice B m d)) (first | exact hS6 | exact hS5 | exact hS4 | exact hS0 | exact HSd.out _ (Below.mono (by repeat (first | exact Below.refl _ _ | refine Below.setCell ?_ (by first | exact Nat.le_refl _ | exact HB5.out.size | exact HB4.out.size) _ | exact HB6.out | exact HB5.out | exact HB4.out | refine Below.drew ?_ | refine Below.alloc ?_ (by first | exact Nat.le_refl _ | exact HB6.out.size | exact HB5.out.size | exact HB4.out.size | (simp; done)) _)) HNr.out))
            (first
              | (go_at_call 26; (with_reducible refine (whole_text W.heap.size _ t n' n k1 (HT.out.below (by repeat (first | exact Below.refl _ _ | refine Below.setCell ?_ (by first | exact Nat.le_refl _ | exact HB5.out.size | exact HB4.out.size) _ | exact HB6.out | exact HB5.out | exact HB4.out | refine Below.drew ?_ | refine Below.alloc ?_ (by first | exact Nat.le_refl _ | exact HB6.out.size | exact HB5.out.size | exact HB4.out.size | (simp; done)) _)))).mono ?_); rintro e w4 ⟨⟨A4, c4, zs4, rfl, hr4, hc4⟩, hb4⟩; have HB4 : Hid (Below wr.heap.size wr w4) := bmore (by repeat (first | exact Below.refl _ _ | refine Below.setCell ?_ (by first | exact Nat.le_refl _ | exact HB5.out.size | exact HB4.out.size) _ | exact HB6.out | exact HB5.out | exact HB4.out | refine Below.drew ?_ | refine Below.alloc ?_ (by first | exact Nat.le_refl _ | exact HB6.out.size | exact HB5.out.size | exact HB4.out.size | (simp; done)) _)) (Nat.le_refl _) hb4; have HR4 := Lib.hid hr4; have hS4 := HSd.out w4 (HB4.out.mono HNr.out); (try (have hq4 : Hid (w4.heap[wr.heap.size]? = some zbox) := keep_box hb4 (heap_alloc_new wr zbox))); clear hb4 hr4)
              | (go_at_call 17; (with_reducible refine (HC5 _).mono ?_); rintro e w' ⟨rfl, rfl⟩)
              | (go_at_call 16; (with_reducible refine (clean_any _ B m' d (zs.take m') (HPall.out _ (by repeat (first | exact Below.refl _ _ | refine Below.setCell ?_ (by first | exact Nat.le_refl _ | exact HB5.out.size | exact HB4.out.size) _ | exact HB6.out | exact HB5.out | exact HB4.out | refine Below.drew ?_ | refine Below.alloc ?_ (by first | exact Nat.le_refl _ | exact HB6.out.size | exact HB5.out.size | exact HB4.out.size | (simp; done)) _))) (by omega)).mono ?_); rintro e w5 ⟨v5, rfl, hown5, hb5⟩; have HB5 : Hid (Below wr.heap.size wr w5) := bmore (by repeat (first | exact Below.refl _ _ | refine Below.setCell ?_ (by first | exact Nat.le_refl _ | exact HB5.out.size | exact HB4.out.size) _ | exact HB6.out | exact HB5.out | exact HB4.out | refine Below.drew ?_ | refine Below.alloc ?_ (by first | exact Nat.le_refl _ | exact HB6.out.size | exact HB5.out.size | exact HB4.out.size | (simp; done)) _)) (Nat.le_refl _) hb5; have HB45 : Hid (Below w4.heap.size w4 w5) := bmore (by repeat (first | exact Below.refl _ _ | refine Below.drew ?_ | refine Below.alloc ?_ (by first | exact Nat.le_refl _ | (simp; done)) _)) (Nat.le_refl _) hb5; have hS5 := HSd.out w5 (HB5.out.mono HNr.out); obtain ⟨A5, c5, rfl, _, _⟩ := own_form hown5; have HR5 := Lib.hid (Rds.of_own hown5); (try (have hq5 : Hid (w5.heap[wr.heap.size]? = some zbox) := keep_box hb5 hq4.out)); (try (have hq5 : Hid (w5.heap[w4.heap.size]? = some zbox) := keep_box hb5 (heap_alloc_new w4 zbox))); clear hb5 hown5)
              | (go_at_call 19; (with_reducible refine (fit_any _ pl ct A4 A5 n c4 m' c5 zs4 (cleanL (zs.take m')) ((HR4.out.below (bmore HB45.out (Nat.le_refl _) (by repeat (first | exact Below.refl _ _ | refine Below.drew ?_ | refine Below.alloc ?_ (by first | exact Nat.le_refl _ | (simp; done)) _)))).more (bmore HB45.out (Nat.le_refl _) (by repeat (first | exact Below.refl _ _ | refine Below.drew ?_ | refine Below.alloc ?_ (by first | exact Nat.le_refl _ | (simp; done)) _))).size) ((HR5.out.below (by repeat (first | exact Below.refl _ _ | refine Below.drew ?_ | refine Below.alloc ?_ (by first | exact Nat.le_refl _ | (simp; done)) _))).more (Below.size (B := w5.heap.size) (by repeat (first | exact Below.refl _ _ | refine Below.drew ?_ | refine Below.alloc ?_ (by first | exact Nat.le_refl _ | (simp; done)) _)))) hc4 HN1.out (by omega)).mono ?_); rintro e w6 ⟨a, k, m6, A6, c6, B6, d6, rfl, hea, hek, hak, hm6, hr6, hg6, hb6⟩; clear hea hek; have HB6 : Hid (Below wr.heap.size wr w6) := bmore (by repeat (first | exact Below.refl _ _ | refine Below.setCell ?_ (by first | exact Nat.le_refl _ | exact HB5.out.size | exact HB4.out.size) _ | exact HB6.out | exact HB5.out | exact HB4.out | refine Below.drew ?_ | refine Below.alloc ?_ (by first | exact Nat.le_refl _ | exact HB6.out.size | exact HB5.out.size | exact HB4.out.size | (simp; done)) _)) (Nat.le_refl _) hb6; have HG6 := Lib.hid hg6; have HR6 := Lib.hid hr6; have HAK := Lib.hid hak; have HM6 := Lib.hid hm6; have hS6 := HSd.out w6 (HB6.out.mono HNr.out); (try (have hq6 : Hid (w6.heap[wr.heap.size]? = some zbox) := keep_box hb6 hq5.out)); (try (have hq6 : Hid (w6.heap[w4.heap.size]? = some zbox) := keep_box hb6 hq5.out)); (try (have hq6 : Hid (w6.heap[w5.heap.size]? = some zbox) := keep_box hb6 (heap_alloc_new w5 zbox))); (try (have hbf := box_facts hq6.out; obtain ⟨bf0, bf1, bf2, bf3, bf4, bf5, bf6⟩ := hbf)); clear hb6 hr6 hg6 hak hm6))
          all_goals
            go_wp2_with fail
            go_meet
            first
              | (have h := ch_new (N := wr.heap.size) (w0 := wr) (a := a) (k := k) (A6 := A6) (c6 := c6) (d6 := d6) HR6.out HG6.out (by first | exact HB5.out.size | (have := HB5.out.size; simp; omega)) HB6.out (Nat.le_refl _); exact ⟨_, a, k, m6, A6, c6, B6, d6, rfl, HAK, HM6, h.1, h.2⟩)
              | (have h := ch_set (N := wr.heap.size) (w0 := wr) (q := w5.heap.size) (a := a) (k := k) (A6 := A6) (c6 := c6) (d6 := d6) HB5.out.size hq6.out HR6.out HG6.out (by simp) HB6.out (Nat.le_refl _); exact ⟨_, a, k, m6, A6, c6, B6, d6, rfl, HAK, HM6, h.1, h.2⟩)
              | (have h := ch_set (N := wr.heap.size) (w0 := wr) (q := w4.heap.size) (a := a) (k := k) (A6 := A6) (c6 := c6) (d6 := d6) HB4.out.size hq6.out HR6.out HG6.out (box_facts hq5.out).1 HB6.out (Nat.le_refl _); exact ⟨_, a, k, m6, A6, c6, B6, d6, rfl, HAK, HM6, h.1, h.2⟩)
              | (have h := ch_set (N := wr.heap.size) (w0 := wr) (q := wr.heap.size) (a := a) (k := k) (A6 := A6) (c6 := c6) (d6 := d6) (Nat.le_refl _) hq6.out HR6.out HG6.out (box_facts hq5.out).1 HB6.out (Nat.le_refl _); exact ⟨_, a, k, m6, A6, c6, B6, d6, rfl, HAK, HM6, h.1, h.2⟩)
        case rest =>
          obtain ⟨q, a, k, m6, A6, c6, B6, d6, rfl, HAK, HM6, HCH, HBW⟩ := hcut
          have hcq := HCH.out.2.1
          have x0 := cell_of_row wc q 0 _ _ _ hcq
          have x1 := cell_of_row wc q 1 _ _ _ hcq
          have x2 := cell_of_row wc q 2 _ _ _ hcq
          have HCQ := Lib.hid hcq
          have xlt : q < wc.heap.size := (Array.getElem?_eq_some_iff.1 hcq).1
          obtain ⟨l2, hl2⟩ : ∃ l2, k1 + m6 = l2 := ⟨_, rfl⟩
          obtain ⟨n2, hn2⟩ : ∃ n2, n - k + m6 = n2 := ⟨_, rfl⟩
          have hm650 : m6 ≤ 50 := by have := HM6.out; omega
          have hl2b : l2 ≤ 50 * (i + 1) := by omega
          have hn2b : n2 ≤ 1000 := by have := HM6.out; have := HN1.out; have := HAK.out; omega
          have hwl : IntKind.i64.wrap ((k1 : Int) + (m6 : Int)) = (l2 : Int) := by rw [show (k1 : Int) + (m6 : Int) = (l2 : Int) from by omega]; exact IntWalk.i64_in _ (by omega)
          have HSTEP : Hid (Calls Try.prog 12 #[.pointer (some ⟨t, 0, none⟩), .int .i64 a, .int .i64 k, .slice B6 m6 d6] wc.drew (WholePost W.heap.size wr wc.drew t n' n2 l2)) := by
            rw [← hl2, ← hn2]
            exact whole_step W.heap.size wr wc.drew t n' n k1 a k m6 d6 B6 _ HT.out HBW.out.drew HNr.out HAK.out (by have := HM6.out; omega) (by omega) (may_take m6 (may_clean _)) HCH.out.2.2.1 HCH.out.2.2.2
          have HTC := Lib.hid (HT.out.below HBW.out)
          have hqr := HCH.out.1
          have HWN : Hid (Below W.heap.size W wc) := HB.out.trans (HBW.out.mono HNr.out)
          clear hl2 hn2 hcq hS0
          go_upto_region 10 with (go_at_call 14; (with_reducible refine (whole_added W.heap.size wc t n' n k1 HTC.out).mono ?_); rintro e w' ⟨rfl, rfl⟩)
          go_region_held3 (fun w' => w'.cell? ⟨q, 0, none⟩ = some (.int .i64 a) ∧ w'.cell? ⟨q, 1, none⟩ = some (.slice A6 k c6) ∧ w'.cell? ⟨q, 2, none⟩ = some (.slice B6 m6 d6)) (first | exact hS7 | exact ⟨x0, x1, x2⟩)
            (first
              | (go_at_call 12; (with_reducible refine HSTEP.out.mono ?_); rintro e w7 ⟨rfl, hk7, hb7, ht7⟩; have HT7 := Lib.hid ht7; have HB7 : Hid (Below W.heap.size W w7) := (HWN.out.drew).trans hb7; have hq7 : w7.heap[q]? = some (.cells #[.int .i64 a, .slice A6 k c6, .slice B6 m6 d6] 40 (0, 0)) := (hk7 q hqr xlt).trans HCQ.out; have hS7 : w7.cell? ⟨q, 0, none⟩ = some (.int .i64 a) ∧ w7.cell? ⟨q, 1, none⟩ = some (.slice A6 k c6) ∧ w7.cell? ⟨q, 2, none⟩ = some (.slice B6 m6 d6) := ⟨cell_of_row w7 q 0 _ _ _ hq7, cell_of_row w7 q 1 _ _ _ hq7, cell_of_row w7 q 2 _ _ _ hq7⟩; clear hk7 hb7 ht7)
              | (go_at_call 14; (with_reducible refine (whole_added W.heap.size _ t n' n2 l2 HT7.out).mono ?_); rintro e w' ⟨rfl, rfl⟩))
          have HB7' := HB7
          clear HSTEP HTC HWN HCQ HCH HBW HB HT x0 x1 x2 hwl hS7 hq7 HPall HSd HPF HPT HNr hqr xlt
          go_upto_region 14 with (go_at_call 27; (with_reducible refine (whole_pieces W.heap.size w7 t n' n2 l2 HT7.out).mono ?_); rintro e w8 ⟨⟨A8, k8, c8, L8, rfl, hown8, hk8, hL8, hpl8, hli8⟩, hb8⟩; have HO8 := Lib.hid hown8; have HL8 := Lib.hid hL8; have HPL8 := Lib.hid hpl8; have HLI8 := Lib.hid hli8; have HB8 : Hid (Below W.heap.size W w8) := bmore HB7.out (Nat.le_refl _) hb8; have HT8 := Lib.hid (HT7.out.below hb8); clear hown8 hL8 hpl8 hli8 hb8)
          clear HB7 HB7' HT7
          go_loopw [83, 10] (fun x y wx => ∃ (j s : Nat) (w0 : World), w0 = wx ∧ j ≤ k8 ∧ x = .int .i64 j ∧ y = .int .i64 s ∧ Hid (plen (L8.take j) = s) ∧ Hid (Below w8.heap.size w8 wx)) (fun x _ _ => k8 - (intOf x).toNat)
          case atStart => exact ⟨0, 0, _, rfl, Nat.zero_le _, rfl, rfl, rfl, Below.refl _ _⟩
          case round =>
            obtain ⟨j, s, wx, rfl, hj, rfl, rfl, HS, HBx⟩ := hrel
            by_cases hltj : j < k8
            · obtain ⟨g, p, rfl, hg, hpm, HP, y0, y1, y2⟩ := prow_at (own_below HO8.out HBx.out (fun k hk => (HO8.out.lt k hk).2)) hltj
              have hlie := HLI8.out p hpm
              obtain ⟨pa, pf, pl8⟩ := p
              simp only at y0 y1 y2 hlie
              have hJ1 : (0 : Int) ≤ (j : Int) ∧ (j : Int) < (k8 : Int) := by omega
              obtain ⟨hJ3a, hJ3b⟩ := hJ1
              have hsn := take_getDp (L := L8) (k := j) (by rw [HL8.out]; exact hltj) HP.out
              have HSN : Hid (plen (L8.take (j + 1)) = s + pl8) := by
                show _ = _
                rw [hsn, plen_append, plen_cons, plen_nil, HS.out]
                rfl
              have hsle : s + pl8 ≤ 1000 := by
                have h1 := plen_take_le L8 (j + 1)
                have h2 := HSN.out
                have h3 := HPL8.out
                omega
              clear hpm hsn
              obtain ⟨hl1, hl3⟩ := hlie
              have hq1 : ¬ (pl8 : Int) < 1 := by omega
              have hq2 : ¬ (pf : Int) < 0 := by omega
              have hws : IntKind.i64.wrap ((s : Int) + (pl8 : Int)) = ((s + pl8 : Nat) : Int) := by rw [show (s : Int) + (pl8 : Int) = ((s + pl8 : Nat) : Int) from by omega]; exact IntWalk.i64_in _ (by omega)
              obtain ⟨s2, hs2⟩ : ∃ s2, s + pl8 = s2 := ⟨_, rfl⟩
              rw [hs2] at hws HSN
              clear hs2
              cases pa with
              | true =>
                simp only [if_true] at hl3
                have hwq : IntKind.i64.wrap ((l2 : Int) - (pf : Int)) = (l2 : Int) - (pf : Int) := IntWalk.i64_in _ (by omega)
                have hq3 : ¬ (l2 : Int) - (pf : Int) < (pl8 : Int) := by omega
                go_wp2_with (go_at_call 14; (with_reducible refine (whole_added W.heap.size _ t n' n2 l2 ((HT8.out.below HBx.out).below ((Below.refl _ _).alloc (Nat.le_refl _) _))).mono ?_); rintro e w' ⟨rfl, rfl⟩)
                go_roundw
                case rel => exact ⟨j + 1, s2, _, rfl, by omega, by go_num, rfl, HSN.out, HBx.out.alloc HBx.out.size _⟩
                case measure => simp [intOf]; omega
              | false =>
                simp only [Bool.false_eq_true, if_false] at hl3
                have hwq : IntKind.i64.wrap ((n' : Int) - (pf : Int)) = (n' : Int) - (pf : Int) := IntWalk.i64_in _ (by omega)
                have hq3 : ¬ (n' : Int) - (pf : Int) < (pl8 : Int) := by omega
                go_wp2
                go_roundw
                case rel => exact ⟨j + 1, s2, _, rfl, by omega, by go_num, rfl, HSN.out, HBx.out.alloc HBx.out.size _⟩
                case measure => simp [intOf]; omega
            · have hs : s = n2 := by
                have h1 := HS.out
                rw [List.take_of_length_le (by have := HL8.out; omega)] at h1
                rw [← h1]
                exact HPL8.out
              subst hs
              clear HS
              go_wp2_with (go_at_call 13; (with_reducible refine (whole_len W.heap.size wx t n' s l2 (HT8.out.below HBx.out)).mono ?_); rintro e w' ⟨rfl, rfl⟩)
              go_roundw
              case rel => exact ⟨i + 1, s, l2, _, rfl, by omega, by go_num, hl2b, by omega, HT8.out.below HBx.out, bmore HB8.out (Nat.le_refl _) HBx.out⟩
              case measure => simp [intOf]; omega
      · have hge : ¬ (i : Int) < 30 := by omega
        go_wp2_with (go_at_call 15; (with_reducible refine (known_any wr).mono ?_); rintro e w11 ⟨rfl, hb11⟩; have HB11 := Lib.hid hb11; clear hb11)
        go_ret
        exact ⟨rfl, bmore HB.out (Nat.le_refl _) HB11.out⟩
    · go_wp2_with (go_at_call 15; (with_reducible refine (known_any wr).mono ?_); rintro e w11 ⟨rfl, hb11⟩; have HB11 := Lib.hid hb11; clear hb11)
      go_ret
      exact ⟨rfl, bmore HB.out (Nat.le_refl _) HB11.out⟩
end Go.Proofs.Ytpfceochplghlaa
