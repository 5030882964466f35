/- The walk of take of the reference. -/
import Derived.Test.YtkibhinpbpgkeaaRb
namespace Go.Proofs.Ytkibhinpbpgkeaa
open Go.RowKit Go.ChangeMaps
attribute [local go_sem ↓] Go.wp_at_zero Go.wp_at_succ

theorem own_less {w3 : World} {B n k p : Nat} {A3 : Option Addr} {K L : List Mk} (hi : L = K.take k ++ K.drop (k + 1))
    (ho : w3.ownsRow B 30 4 (.slice A3 (0 + k + (n - (k + 1))) p) (0 + k + (n - (k + 1))) ([] ++ cells4 (K.take k) ++ cells4 (K.drop (k + 1)))) :
    w3.ownsRow B 30 4 (.slice A3 (k + (n - (k + 1))) p) (k + (n - (k + 1))) (cells4 L) := by
  rw [hi, cells4_append]
  rwa [Nat.zero_add, List.nil_append] at ho

set_option maxHeartbeats 4000000 in
theorem take_ref (W : World) (r : Nat) (A : Option Addr) (n c k : Nat) (K : List Mk) (h : RefIn W r A n c K) (hn : n ≤ 1000) (hk : k < n) :
    Calls Try.prog 50 #[.pointer (some ⟨r, 0, none⟩), .int .i64 k] W fun e w' => e = .returned (.tuple #[]) ∧ RefLeft W r A (K.take k ++ K.drop (k + 1)) w' := by
  obtain ⟨i0, hi0, hz0, hz1, hz2⟩ := info_parts info30
  have hr0 := h.lt
  have hcap := h.cap
  have hcm := h.max
  simp only [maxLen] at hcm
  have c0 := h.cell
  have HR := Lib.hid h.rd
  have HF := Lib.hid h.free
  have HH := Lib.hid h
  have HIL : Hid ((K.take k ++ K.drop (k + 1)).length = k + (n - (k + 1))) := by rw [Hid, List.length_append, List.length_take, List.length_drop, h.len]; omega
  have hkn : k ≤ n := by omega
  obtain ⟨A2, hs2, hr2⟩ := slice_from_h A n c (k + 1) (by omega) hcap
  have hs2' : ∀ w, (Instr.slice 22 (.slice A n c) (some (.int .i64 ((k : Int) + 1))) none none).run Try.prog w = .ok (.slice A2 (n - (k + 1)) (c - (k + 1))) w := fun w => by
    have h := hs2 w
    rwa [show (((k + 1 : Nat) : Int)) = (k : Int) + 1 from by omega] at h
  have hs1 := slice_to A n c k (by omega)
  have HC0 : Hid (∀ w', Below W.heap.size W w' → w'.cell? ⟨r, 0, none⟩ = some (.slice A n c)) := fun w' hb => (hb.cell (p := ⟨r, 0, none⟩) hr0).trans c0
  have HFR : Hid (∀ w', Below W.heap.size W w' → w'.frozen? ⟨r, 0, none⟩ = false) := fun w' hb => by rw [hb.frozen (p := ⟨r, 0, none⟩) hr0]; exact HF.out
  have HR1 : Hid (∀ w', Below W.heap.size W w' → Rds w' w'.heap.size 4 A k (cells4 (K.take k))) := fun w' hb => by
    have h := ((HR.out.rds.front (m := k) hkn).below hb).more hb.size
    rwa [cells4_take] at h
  have HR2 : Hid (∀ w', Below W.heap.size W w' → Rds w' w'.heap.size 4 A2 (n - (k + 1)) (cells4 (K.drop (k + 1)))) := fun w' hb => by
    have h := hr2.out _ _ _ ((HR.out.rds.below hb).more hb.size)
    rwa [cells4_drop] at h
  have i1 : (0 : Int) ≤ (k : Int) := by omega
  have i2 : (k : Int) ≤ (c : Int) := by omega
  have i3 : (k : Int) + 1 ≤ (n : Int) := by omega
  have i4 : (0 : Int) ≤ (k : Int) + 1 := by omega
  have hwr : IntKind.i64.wrap ((k : Int) + 1) = (k : Int) + 1 := IntWalk.i64_in _ (by omega)
  clear hr2 h hs2
  go_enter Try.func50, Try.ntmps50
  go_wp2
  go_region_law (first
    | ((refine step_append_rds (by rfl) (.const (.slice none 0 0)) (.tmp 10) 22 (by rfl) W.heap.size 30 i0 _ 4 32 Try.underlying22 hi0 hz0 hz1 hz2 rfl (by decide) (.slice none 0 0) 0 [] (by rfl) (World.ownsRow_nil _ _ _ _) _ A k c (cells4 (K.take k)) (by rfl) (HR1.out _ (by repeat (first | exact Below.refl _ _ | refine Below.drew ?_))) (oneCell_marks _) (by simp only [maxLen]; omega) (by omega) (by first | omega | (simp <;> omega)) ?_); intro v1 w1 hown1 hg1 hat1; have HO1 := Lib.hid hown1; have HY1 : Hid (Below W.heap.size W w1) := Below.grown (by repeat (first | exact Below.refl _ _ | refine Below.drew ?_)) hg1 (by first | omega | (simp <;> omega)) (by simp [Value.ownBlock]); have hq1 : W.heap.size ≤ w1.heap.size := HY1.out.size; have hc1 := HC0.out _ HY1.out; clear hown1 hg1 hat1)
    | ((refine step_append_rds (by rfl) (.tmp 11) (.tmp 18) 22 (by rfl) W.heap.size 30 i0 _ 4 32 Try.underlying22 hi0 hz0 hz1 hz2 rfl (by decide) v1 (0 + k) _ (by rfl) HO1.out _ A2 (n - (k + 1)) (c - (k + 1)) (cells4 (K.drop (k + 1))) (by rfl) (HR2.out _ HY1.out) (oneCell_marks _) (by simp only [maxLen]; omega) (by omega) (by first | omega | (simp <;> omega)) ?_); intro v3 w3 hown3 hg3 hat3; obtain ⟨A3, p3, rfl, _, _⟩ := own_form hown3; have HO3 : Hid (w3.ownsRow W.heap.size 30 4 (.slice A3 (k + (n - (k + 1))) p3) (k + (n - (k + 1))) (cells4 (K.take k ++ K.drop (k + 1)))) := own_less rfl hown3; have HY3 : Hid (Below W.heap.size W w3) := Below.grown HY1.out hg3 (by first | omega | (simp <;> omega)) (fun j hj => (HO1.out.lt j hj).1); have hq3 : W.heap.size ≤ w3.heap.size := HY3.out.size; have hc3 := HC0.out _ HY3.out; have hf3 : w3.frozen? ⟨r, 0, none⟩ = false := HFR.out _ HY3.out; clear hown3 hg3 hat3))
  all_goals
    go_wp2
    go_end0
    exact ⟨rfl, ref_fin HH.out (Below.refl _ _) HY3.out HO3.out HIL.out⟩
end Go.Proofs.Ytkibhinpbpgkeaa
