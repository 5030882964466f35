/- The walk of put of the reference: the mark goes to the end. -/
import Derived.Test.YtkibhinpbpgkeaaRb
namespace Go.Proofs.Ytkibhinpbpgkeaa
open Go.RowKit Go.ChangeMaps
attribute [local go_sem ↓] Go.wp_at_zero Go.wp_at_succ

set_option maxRecDepth 100000 in
set_option maxHeartbeats 20000000 in
theorem put_end (W : World) (r : Nat) (A : Option Addr) (n c p : Nat) (K : List Mk) (m : Mk) (h : RefIn W r A n c K) (hn : n ≤ 600) (hp : p ≤ n ∧ n ≤ p) (h1 : ∀ j, j < p → lt (K.getD j ⟨0, 0, 0, 0⟩) m = true) :
    Calls Try.prog 35 #[.pointer (some ⟨r, 0, none⟩), .agg #[.int .i64 m.id, .int .i64 m.fr, .int .i64 m.to, .int .i64 m.pr]] W fun e w' => e = .returned (.tuple #[]) ∧ RefLeft W r A (ins K m) w' := by
  obtain ⟨i0, hi0, hz0, hz1, hz2⟩ := info_parts info30
  have hr0 := h.lt
  have hcap := h.cap
  have hcm := h.max
  simp only [maxLen] at hcm
  have HR := Lib.hid h.rd
  have HL := Lib.hid h.len
  have HF := Lib.hid h.free
  have HH := Lib.hid h
  have H1 := Lib.hid h1
  obtain ⟨hp, hp2⟩ := hp
  have HI0 : Hid (ins K m = K.take p ++ m :: K.drop p) := ins_at h1 (by rw [HL.out]; omega) fun h => absurd h (by rw [HL.out]; omega)
  have HIL0 : Hid ((ins K m).length = p + 1 + (n - p)) := by rw [Hid, ins_len, HL.out]; omega
  have c0' := h.cell
  obtain ⟨w2, hw2⟩ : ∃ w2, w2 = W.alloc (.cells #[.int .i64 m.id, .int .i64 m.fr, .int .i64 m.to, .int .i64 m.pr] 30 (0, 0)) := ⟨_, rfl⟩
  have HB2 : Hid (Below W.heap.size W w2) := by rw [hw2]; exact (Below.refl _ _).alloc (Nat.le_refl _) _
  have HC2 : Hid (w2.cell? ⟨r, 0, none⟩ = some (.slice A n c)) := (HB2.out.cell (p := ⟨r, 0, none⟩) hr0).trans c0'
  have hk2 : w2.heap[W.heap.size]? = some (.cells #[.int .i64 m.id, .int .i64 m.fr, .int .i64 m.to, .int .i64 m.pr] 30 (0, 0)) := by rw [hw2]; exact heap_new _ _
  have HB : Hid (w2.cell? ⟨W.heap.size, 0, none⟩ = some (.int .i64 m.id) ∧ w2.cell? ⟨W.heap.size, 1, none⟩ = some (.int .i64 m.fr) ∧ w2.cell? ⟨W.heap.size, 2, none⟩ = some (.int .i64 m.to) ∧ w2.cell? ⟨W.heap.size, 3, none⟩ = some (.int .i64 m.pr)) := ⟨cell_of_row w2 W.heap.size 0 _ _ _ hk2, cell_of_row w2 W.heap.size 1 _ _ _ hk2, cell_of_row w2 W.heap.size 2 _ _ _ hk2, cell_of_row w2 W.heap.size 3 _ _ _ hk2⟩
  have hs2 := heap_lt hk2
  have hw2' := hw2.symm
  clear hw2 hk2 c0' h h1
  go_enter Try.func35, Try.ntmps35
  go_wp2
  clear hw2'
  go_loopw [4] (fun i wr => ∃ (k : Nat) (w0 : World), w0 = wr ∧ k ≤ p ∧ i = .int .i64 k ∧ Below w2.heap.size w2 wr) (fun i _ => p - (intOf i).toNat)
  case atStart => exact ⟨0, _, rfl, Nat.zero_le _, rfl, Below.refl _ _⟩
  case round =>
    obtain ⟨k, wr, rfl, hkp, rfl, hbx⟩ := hrel
    have hkn : k ≤ n := by omega
    have c0 := (hbx.cell (p := ⟨r, 0, none⟩) (show r < w2.heap.size by omega)).trans HC2.out
    have b0 := (hbx.cell (p := ⟨W.heap.size, 0, none⟩) hs2).trans HB.out.1
    have b1 := (hbx.cell (p := ⟨W.heap.size, 1, none⟩) hs2).trans HB.out.2.1
    have b2 := (hbx.cell (p := ⟨W.heap.size, 2, none⟩) hs2).trans HB.out.2.2.1
    have b3 := (hbx.cell (p := ⟨W.heap.size, 3, none⟩) hs2).trans HB.out.2.2.2
    have HBX := Lib.hid hbx
    have HBW : Hid (Below W.heap.size W wr) := HB2.out.trans (hbx.mono (by omega))
    have hxz := hbx.size
    have hJ1 : (0 : Int) ≤ (k : Int) := by omega
    clear hbx
    by_cases hlt : k < p
    · obtain ⟨ad, x, rfl, hBa, Hm, e0, e1, e2, e3⟩ := (HR.out.below HBW.out).at_ (show k < n by omega)
      have hJ2 : (k : Int) < (n : Int) := by omega
      have HLA : Hid (lt x m = true) := by rw [Hid, ← Hm.out]; exact H1.out k hlt
      have HC0 : Hid (∀ w', Below wr.heap.size wr w' → w'.cell? ⟨r, 0, none⟩ = some (.slice (some ad) n c) ∧ w'.cell? (ad.add (k * 4)) = some (.int .i64 x.id) ∧ w'.cell? ⟨(ad.add (k * 4)).block, (ad.add (k * 4)).off + 1, none⟩ = some (.int .i64 x.fr) ∧ w'.cell? ⟨(ad.add (k * 4)).block, (ad.add (k * 4)).off + 2, none⟩ = some (.int .i64 x.to) ∧ w'.cell? ⟨(ad.add (k * 4)).block, (ad.add (k * 4)).off + 3, none⟩ = some (.int .i64 x.pr) ∧ w'.cell? ⟨W.heap.size, 0, none⟩ = some (.int .i64 m.id) ∧ w'.cell? ⟨W.heap.size, 1, none⟩ = some (.int .i64 m.fr) ∧ w'.cell? ⟨W.heap.size, 2, none⟩ = some (.int .i64 m.to) ∧ w'.cell? ⟨W.heap.size, 3, none⟩ = some (.int .i64 m.pr)) := fun w' hb => ⟨(hb.cell (p := ⟨r, 0, none⟩) (show r < wr.heap.size by omega)).trans c0, (hb.cell (p := ad.add (k * 4)) (show (ad.add (k * 4)).block < wr.heap.size by omega)).trans e0, (hb.cell (p := ⟨(ad.add (k * 4)).block, (ad.add (k * 4)).off + 1, none⟩) (show (ad.add (k * 4)).block < wr.heap.size by omega)).trans e1, (hb.cell (p := ⟨(ad.add (k * 4)).block, (ad.add (k * 4)).off + 2, none⟩) (show (ad.add (k * 4)).block < wr.heap.size by omega)).trans e2, (hb.cell (p := ⟨(ad.add (k * 4)).block, (ad.add (k * 4)).off + 3, none⟩) (show (ad.add (k * 4)).block < wr.heap.size by omega)).trans e3, (hb.cell (p := ⟨W.heap.size, 0, none⟩) (show W.heap.size < wr.heap.size by omega)).trans b0, (hb.cell (p := ⟨W.heap.size, 1, none⟩) (show W.heap.size < wr.heap.size by omega)).trans b1, (hb.cell (p := ⟨W.heap.size, 2, none⟩) (show W.heap.size < wr.heap.size by omega)).trans b2, (hb.cell (p := ⟨W.heap.size, 3, none⟩) (show W.heap.size < wr.heap.size by omega)).trans b3⟩
      clear c0 b0 b1 b2 b3 e0 e1 e2 e3
      go_wp2
      go_region_held3 (fun w' => w'.cell? ⟨r, 0, none⟩ = some (.slice (some ad) n c) ∧ w'.cell? (ad.add (k * 4)) = some (.int .i64 x.id) ∧ w'.cell? ⟨(ad.add (k * 4)).block, (ad.add (k * 4)).off + 1, none⟩ = some (.int .i64 x.fr) ∧ w'.cell? ⟨(ad.add (k * 4)).block, (ad.add (k * 4)).off + 2, none⟩ = some (.int .i64 x.to) ∧ w'.cell? ⟨(ad.add (k * 4)).block, (ad.add (k * 4)).off + 3, none⟩ = some (.int .i64 x.pr) ∧ w'.cell? ⟨W.heap.size, 0, none⟩ = some (.int .i64 m.id) ∧ w'.cell? ⟨W.heap.size, 1, none⟩ = some (.int .i64 m.fr) ∧ w'.cell? ⟨W.heap.size, 2, none⟩ = some (.int .i64 m.to) ∧ w'.cell? ⟨W.heap.size, 3, none⟩ = some (.int .i64 m.pr)) (exact HC0.out _ (by repeat (first | exact HY1.out | exact Below.refl _ _ | refine Below.drew ?_)))
        ((go_at_call 23; (with_reducible refine (ahead_w x m true HLA _).mono ?_); rintro e u1 ⟨rfl, hd1⟩; have HY1 : Hid (Below wr.heap.size wr u1) := ((Below.refl _ _).drew).trans hd1; clear hd1))
      go_wp2
      go_roundw
      case rel => exact ⟨k + 1, _, rfl, by omega, by go_num, HBX.out.trans (HY1.out.mono hxz)⟩
      case measure => simp [intOf]; omega
    · have hke : k = p := by omega
      subst hke
      have HI := Lib.hid HI0.out
      have HIL := Lib.hid HIL0.out
      obtain ⟨A2, hs2', hr2⟩ := slice_from_h A n c k hkn hcap
      have hs1 := slice_to A n c k (by omega)
      have hdl : decide (k < n) = false := by simp; omega
      have hdm : ¬ k < n := by omega
      go_wp2
      go_region
      go_wp2
      obtain ⟨X, hX⟩ : ∃ X, X = wr.drew := ⟨_, rfl⟩
      have HXB : Hid (Below W.heap.size W X) := by rw [hX]; exact HBW.out.drew
      have hXs : W.heap.size < X.heap.size := by rw [hX]; show W.heap.size < wr.heap.size; omega
      have c0 : X.cell? ⟨r, 0, none⟩ = some (.slice A n c) := by rw [hX]; exact c0
      have b0 : X.cell? ⟨W.heap.size, 0, none⟩ = some (.int .i64 m.id) := by rw [hX]; exact b0
      have b1 : X.cell? ⟨W.heap.size, 1, none⟩ = some (.int .i64 m.fr) := by rw [hX]; exact b1
      have b2 : X.cell? ⟨W.heap.size, 2, none⟩ = some (.int .i64 m.to) := by rw [hX]; exact b2
      have b3 : X.cell? ⟨W.heap.size, 3, none⟩ = some (.int .i64 m.pr) := by rw [hX]; exact b3
      rw [← hX]
      clear hX hp2 hdl hdm
      have hXf : X.frozen? ⟨r, 0, none⟩ = false := by rw [HXB.out.frozen (p := ⟨r, 0, none⟩) hr0]; exact HF.out
      have HC0 : Hid (∀ w', Below X.heap.size X w' → w'.cell? ⟨r, 0, none⟩ = some (.slice A n c)) := fun w' hb => (hb.cell (p := ⟨r, 0, none⟩) (show r < X.heap.size by omega)).trans c0
      have hr1 : r < X.heap.size := by omega
      have HC : Hid (∀ w', Below X.heap.size X w' → w'.cell? ⟨W.heap.size, 0, none⟩ = some (.int .i64 m.id) ∧ w'.cell? ⟨W.heap.size, 1, none⟩ = some (.int .i64 m.fr) ∧ w'.cell? ⟨W.heap.size, 2, none⟩ = some (.int .i64 m.to) ∧ w'.cell? ⟨W.heap.size, 3, none⟩ = some (.int .i64 m.pr)) := fun w' hb => ⟨(hb.cell (p := ⟨W.heap.size, 0, none⟩) hXs).trans b0, (hb.cell (p := ⟨W.heap.size, 1, none⟩) hXs).trans b1, (hb.cell (p := ⟨W.heap.size, 2, none⟩) hXs).trans b2, (hb.cell (p := ⟨W.heap.size, 3, none⟩) hXs).trans b3⟩
      have HFR : Hid (∀ w', Below X.heap.size X w' → w'.frozen? ⟨r, 0, none⟩ = false) := fun w' hb => by rw [hb.frozen (p := ⟨r, 0, none⟩) (show r < X.heap.size by omega)]; exact hXf
      have HR1 : Hid (∀ w', Below W.heap.size W w' → Rds w' w'.heap.size 4 A k (cells4 (K.take k))) := fun w' hb => by
        have h := ((HR.out.rds.front (m := k) hkn).below hb).more hb.size
        rwa [cells4_take] at h
      have HR2 : Hid (∀ w', Below W.heap.size W w' → Rds w' w'.heap.size 4 A2 (n - k) (cells4 (K.drop k))) := fun w' hb => by
        have h := hr2.out _ _ _ ((HR.out.rds.below hb).more hb.size)
        rwa [cells4_drop] at h
      have i1 : (0 : Int) ≤ (k : Int) := by omega
      have i2 : (k : Int) ≤ (c : Int) := by omega
      have i3 : (k : Int) ≤ (n : Int) := by omega
      clear hr2 hXf
      go_region_law (first
          | ((refine step_append_rds (by rfl) (.const (.slice none 0 0)) (.tmp 31) 22 (by rfl) X.heap.size 30 i0 _ 4 32 Try.underlying22 hi0 hz0 hz1 hz2 rfl (by decide) (.slice none 0 0) 0 [] (by rfl) (World.ownsRow_nil _ _ _ _) _ A k c (cells4 (K.take k)) (by rfl) (HR1.out _ (by repeat (first | exact HXB.out | refine Below.drew ?_ | refine Below.alloc ?_ (by first | omega | (simp <;> omega)) _))) (oneCell_marks _) (by simp only [maxLen]; omega) (by omega) (by first | omega | (simp <;> omega)) ?_); intro v1 w1 hown1 hg1 hat1; have HO1 := Lib.hid hown1; have HG1 := Lib.hid (Below.grown (Below.refl _ _) hg1 (Nat.le_refl _) (by simp [Value.ownBlock])); have HY1 : Hid (Below X.heap.size X w1) := Below.grown (by repeat (first | exact Below.refl _ _ | refine Below.drew ?_ | refine Below.alloc ?_ (by first | omega | (simp <;> omega)) _)) hg1 (by first | omega | (simp <;> omega)) (by simp [Value.ownBlock]); have hq1 : X.heap.size ≤ w1.heap.size := HY1.out.size; have hr2 : r < w1.heap.size := Nat.lt_of_lt_of_le hr1 hq1; have hc1 := HC0.out _ HY1.out; obtain ⟨d0, d1, d2, d3⟩ := HC.out _ HY1.out; have hv1 : W.heap.size < w1.heap.size := Nat.lt_of_lt_of_le hXs hq1; clear hown1 hg1 hat1)
          | ((refine step_append_rds (by rfl) (.tmp 32) (.tmp 34) 22 (by rfl) X.heap.size 30 i0 _ 4 32 Try.underlying22 hi0 hz0 hz1 hz2 rfl (by decide) v1 (0 + k) _ (by rfl) (by first | exact HO1.out | exact HO1.out.alloc _) (w1.heap.size + 1) _ 1 1 (cells4 [m]) (by rfl) (by first | exact rds_mark _ _ _ m (by omega) (heap_new _ _) | exact rds_mark _ _ _ m (by omega) ((HG1.out.block _ (by simp)).trans (heap_new _ _))) (oneCell_marks _) (by simp only [maxLen]; omega) (by omega) (by first | omega | (simp <;> omega)) ?_); intro v2 w2 hown2 hg2 hat2; have HO2 := Lib.hid hown2; have HY2 : Hid (Below X.heap.size X w2) := Below.grown (by repeat (first | exact HY1.out | refine Below.alloc ?_ (by first | omega | (simp <;> omega)) _)) hg2 (by first | omega | (simp <;> omega)) (fun j hj => (HO1.out.lt j hj).1); have hq2 : X.heap.size ≤ w2.heap.size := HY2.out.size; have hr3 : r < w2.heap.size := Nat.lt_of_lt_of_le hr1 hq2; have hc2 := HC0.out _ HY2.out; clear hown2 hg2 hat2)
          | ((refine step_append_rds (by rfl) (.tmp 35) (.tmp 41) 22 (by rfl) X.heap.size 30 i0 _ 4 32 Try.underlying22 hi0 hz0 hz1 hz2 rfl (by decide) v2 (0 + k + 1) _ (by rfl) HO2.out _ A2 (n - k) (c - k) (cells4 (K.drop k)) (by rfl) (HR2.out _ (HXB.out.trans (HY2.out.mono (by omega)))) (oneCell_marks _) (by simp only [maxLen]; omega) (by omega) (by first | omega | (simp <;> omega)) ?_); intro v3 w3 hown3 hg3 hat3; obtain ⟨A3, p3, rfl, _, _⟩ := own_form hown3; have HO3 : Hid (w3.ownsRow X.heap.size 30 4 (.slice A3 (k + 1 + (n - k)) p3) (k + 1 + (n - k)) (cells4 (ins K m))) := own_mid HI.out hown3; have HY3 : Hid (Below X.heap.size X w3) := Below.grown HY2.out hg3 (by first | omega | (simp <;> omega)) (fun j hj => (HO2.out.lt j hj).1); have hq3 : X.heap.size ≤ w3.heap.size := HY3.out.size; have hc3 := HC0.out _ HY3.out; have hf3 : w3.frozen? ⟨r, 0, none⟩ = false := HFR.out _ HY3.out; clear hown3 hg3 hat3))
      all_goals
        go_wp2
        go_end0
        exact ⟨rfl, ref_fin HH.out HXB.out HY3.out HO3.out HIL.out⟩
end Go.Proofs.Ytkibhinpbpgkeaa
