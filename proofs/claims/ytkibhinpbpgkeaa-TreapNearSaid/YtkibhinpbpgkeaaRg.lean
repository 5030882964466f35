/- The walks of Stab and Within of the reference. -/
import Derived.Test.YtkibhinpbpgkeaaRb
namespace Go.Proofs.Ytkibhinpbpgkeaa
open Go.RowKit Go.ChangeMaps

theorem vids_snoc (L : List Mk) (m : Mk) : vids (L ++ [m]) = vids L ++ [.int .i64 m.id] := by simp [vids]
theorem oneCell_vids (L : List Mk) : ∀ u ∈ vids L, u.oneCell' = true := by
  intro u hu; rw [vids_eq] at hu; exact oneCell_ints _ u hu
set_option maxRecDepth 100000 in
set_option maxHeartbeats 4000000 in
theorem rstab_any (W : World) (r : Nat) (A : Option Addr) (n c : Nat) (K : List Mk) (at0 : Int) (h : RefIn W r A n c K) (hn : n ≤ 1000) :
    Calls Try.prog 52 #[.pointer (some ⟨r, 0, none⟩), .int .i64 at0] W fun e w' => ∃ A p, e = .returned (.slice A (K.filter (P38 at0)).length p) ∧ w'.ownsRow W.heap.size 3 1 (.slice A (K.filter (P38 at0)).length p) (K.filter (P38 at0)).length (vids (K.filter (P38 at0))) ∧ Below W.heap.size W w' := by
  obtain ⟨i0, hi0, hz0, hz1, hz2⟩ := info_parts info3
  have hr0 := h.lt
  have c0 := h.cell
  have HR := Lib.hid h.rd
  have HL := Lib.hid h.len
  have HC0 := Lib.hid h.cell
  clear h
  go_enter Try.func52, Try.ntmps52
  go_wp2
  go_loopw [5, 6] (fun o i wr => ∃ (k : Nat) (w0 : World) (Ao : Option Addr) (q po : Nat), w0 = wr ∧ k ≤ n ∧ i = .int .i64 k ∧ o = .slice Ao q po ∧ q ≤ k ∧ Hid (((K.take k).filter (P38 at0)).length = q) ∧ Hid (wr.ownsRow W.heap.size 3 1 (.slice Ao q po) q (vids ((K.take k).filter (P38 at0)))) ∧ Below W.heap.size W wr) (fun _ i _ => n - (intOf i).toNat)
  case atStart => exact ⟨0, _, none, 0, 0, rfl, Nat.zero_le _, rfl, rfl, Nat.le_refl _, (by simp [Hid]), World.ownsRow_nil _ _ _ _, Below.refl _ _⟩
  case round =>
    obtain ⟨k, wr, Ao, q, po, rfl, hk, rfl, rfl, hqk, HQ, HO, hbx⟩ := hrel
    have c0 := (hbx.cell (p := ⟨r, 0, none⟩) hr0).trans HC0.out
    have hxz := hbx.size
    by_cases hlt : k < n
    · obtain ⟨ad, m, rfl, hB, Hm, e0, e1, e2, e3⟩ := (HR.out.below hbx).at_ hlt
      have HBX := Lib.hid hbx
      have HT := Lib.hid (take_filter K k (by rw [HL.out]; exact hlt) (P38 at0) m Hm.out)
      clear hbx
      by_cases hp : P38 at0 m = true
      · have hp1 : m.fr ≤ at0 ∧ at0 ≤ m.to := by simpa [P38] using hp
        obtain ⟨hp1, hp2⟩ := hp1
        have HF : Hid ((K.take (k + 1)).filter (P38 at0) = (K.take k).filter (P38 at0) ++ [m]) := by rw [Hid, HT.out, if_pos hp]
        clear hp HT
        go_wp2_with (at_builtin; refine append_rds rfl (.tmp 38) (.tmp 47) 43 rfl W.heap.size 3 i0 _ 1 8 Try.underlying43 hi0 hz0 hz1 hz2 rfl (by omega) (.slice Ao q po) q _ rfl (HO.out.alloc _) (wr.heap.size + 1) (some ⟨wr.heap.size, 0, none⟩) 1 1 [.int .i64 m.id] rfl (rds_one _ _ _ _ (by omega) (by simp [go_sem])) (oneCell_ints [m.id]) (by simp only [maxLen]; omega) (by omega) (by simp; omega) ?_)
        intro v3 w3 hown3 hg3 hat3
        obtain ⟨A3, p3, rfl, _, _⟩ := own_form hown3
        have HB3 : Hid (Below W.heap.size W w3) := Below.grown (HBX.out.alloc hxz _) hg3 (by simp; omega) fun k hk => (HO.out.lt k hk).1
        have HQ3 : Hid (((K.take (k + 1)).filter (P38 at0)).length = q + 1) := by rw [Hid, HF.out, List.length_append, HQ.out]; rfl
        have HO3 : Hid (w3.ownsRow W.heap.size 3 1 (.slice A3 (q + 1) p3) (q + 1) (vids ((K.take (k + 1)).filter (P38 at0)))) := by rw [Hid, HF.out, vids_snoc]; exact hown3
        clear hown3 hg3 hat3
        go_wp2
        exact ⟨⟨k + 1, _, A3, q + 1, p3, rfl, by omega, by go_num, rfl, by omega, HQ3, HO3, HB3.out⟩, by simp [intOf]; omega⟩
      · have HF : Hid ((K.take (k + 1)).filter (P38 at0) = (K.take k).filter (P38 at0)) := by rw [Hid, HT.out, if_neg hp, List.append_nil]
        have hp1 : ¬ m.fr ≤ at0 ∨ (m.fr ≤ at0 ∧ ¬ at0 ≤ m.to) := by
          have h : ¬ (m.fr ≤ at0 ∧ at0 ≤ m.to) := by simpa [P38] using hp
          omega
        clear hp HT
        rcases hp1 with hp1 | ⟨hp1, hp2⟩
        all_goals
          go_wp2
          exact ⟨⟨k + 1, _, Ao, q, po, rfl, by omega, by go_num, rfl, by omega, by rw [Hid, HF.out]; exact HQ.out, by rw [Hid, HF.out]; exact HO.out, HBX.out⟩, by simp [intOf]; omega⟩
    · have hkn : k = n := by omega
      subst hkn
      have HBX := Lib.hid hbx
      clear hbx
      have HT : Hid (K.take k = K) := by rw [Hid, ← HL.out, List.take_length]
      go_wp2
      go_ret
      have h1 := HQ.out
      have h2 := HO.out
      rw [HT.out] at h1 h2
      subst h1
      exact ⟨Ao, po, rfl, h2, HBX.out⟩
set_option maxRecDepth 100000 in
set_option maxHeartbeats 4000000 in
theorem rwithin_any (W : World) (r : Nat) (A : Option Addr) (n c : Nat) (K : List Mk) (f0 t0 : Int) (h : RefIn W r A n c K) (hn : n ≤ 1000) :
    Calls Try.prog 53 #[.pointer (some ⟨r, 0, none⟩), .int .i64 f0, .int .i64 t0] W fun e w' => ∃ A p, e = .returned (.slice A (K.filter (P39 f0 t0)).length p) ∧ w'.ownsRow W.heap.size 3 1 (.slice A (K.filter (P39 f0 t0)).length p) (K.filter (P39 f0 t0)).length (vids (K.filter (P39 f0 t0))) ∧ Below W.heap.size W w' := by
  obtain ⟨i0, hi0, hz0, hz1, hz2⟩ := info_parts info3
  have hr0 := h.lt
  have c0 := h.cell
  have HR := Lib.hid h.rd
  have HL := Lib.hid h.len
  have HC0 := Lib.hid h.cell
  clear h
  go_enter Try.func53, Try.ntmps53
  go_wp2
  go_loopw [7, 8] (fun o i wr => ∃ (k : Nat) (w0 : World) (Ao : Option Addr) (q po : Nat), w0 = wr ∧ k ≤ n ∧ i = .int .i64 k ∧ o = .slice Ao q po ∧ q ≤ k ∧ Hid (((K.take k).filter (P39 f0 t0)).length = q) ∧ Hid (wr.ownsRow W.heap.size 3 1 (.slice Ao q po) q (vids ((K.take k).filter (P39 f0 t0)))) ∧ Below W.heap.size W wr) (fun _ i _ => n - (intOf i).toNat)
  case atStart => exact ⟨0, _, none, 0, 0, rfl, Nat.zero_le _, rfl, rfl, Nat.le_refl _, (by simp [Hid]), World.ownsRow_nil _ _ _ _, Below.refl _ _⟩
  case round =>
    obtain ⟨k, wr, Ao, q, po, rfl, hk, rfl, rfl, hqk, HQ, HO, hbx⟩ := hrel
    have c0 := (hbx.cell (p := ⟨r, 0, none⟩) hr0).trans HC0.out
    have hxz := hbx.size
    by_cases hlt : k < n
    · obtain ⟨ad, m, rfl, hB, Hm, e0, e1, e2, e3⟩ := (HR.out.below hbx).at_ hlt
      have HBX := Lib.hid hbx
      have HT := Lib.hid (take_filter K k (by rw [HL.out]; exact hlt) (P39 f0 t0) m Hm.out)
      clear hbx
      by_cases hp : P39 f0 t0 m = true
      · have hp1 : f0 ≤ m.fr ∧ m.to ≤ t0 := by simpa [P39] using hp
        obtain ⟨hp1, hp2⟩ := hp1
        have HF : Hid ((K.take (k + 1)).filter (P39 f0 t0) = (K.take k).filter (P39 f0 t0) ++ [m]) := by rw [Hid, HT.out, if_pos hp]
        clear hp HT
        go_wp2_with (at_builtin; refine append_rds rfl (.tmp 40) (.tmp 49) 43 rfl W.heap.size 3 i0 _ 1 8 Try.underlying43 hi0 hz0 hz1 hz2 rfl (by omega) (.slice Ao q po) q _ rfl (HO.out.alloc _) (wr.heap.size + 1) (some ⟨wr.heap.size, 0, none⟩) 1 1 [.int .i64 m.id] rfl (rds_one _ _ _ _ (by omega) (by simp [go_sem])) (oneCell_ints [m.id]) (by simp only [maxLen]; omega) (by omega) (by simp; omega) ?_)
        intro v3 w3 hown3 hg3 hat3
        obtain ⟨A3, p3, rfl, _, _⟩ := own_form hown3
        have HB3 : Hid (Below W.heap.size W w3) := Below.grown (HBX.out.alloc hxz _) hg3 (by simp; omega) fun k hk => (HO.out.lt k hk).1
        have HQ3 : Hid (((K.take (k + 1)).filter (P39 f0 t0)).length = q + 1) := by rw [Hid, HF.out, List.length_append, HQ.out]; rfl
        have HO3 : Hid (w3.ownsRow W.heap.size 3 1 (.slice A3 (q + 1) p3) (q + 1) (vids ((K.take (k + 1)).filter (P39 f0 t0)))) := by rw [Hid, HF.out, vids_snoc]; exact hown3
        clear hown3 hg3 hat3
        go_wp2
        exact ⟨⟨k + 1, _, A3, q + 1, p3, rfl, by omega, by go_num, rfl, by omega, HQ3, HO3, HB3.out⟩, by simp [intOf]; omega⟩
      · have HF : Hid ((K.take (k + 1)).filter (P39 f0 t0) = (K.take k).filter (P39 f0 t0)) := by rw [Hid, HT.out, if_neg hp, List.append_nil]
        have hp1 : ¬ f0 ≤ m.fr ∨ (f0 ≤ m.fr ∧ ¬ m.to ≤ t0) := by
          have h : ¬ (f0 ≤ m.fr ∧ m.to ≤ t0) := by simpa [P39] using hp
          omega
        clear hp HT
        rcases hp1 with hp1 | ⟨hp1, hp2⟩
        all_goals
          go_wp2
          exact ⟨⟨k + 1, _, Ao, q, po, rfl, by omega, by go_num, rfl, by omega, by rw [Hid, HF.out]; exact HQ.out, by rw [Hid, HF.out]; exact HO.out, HBX.out⟩, by simp [intOf]; omega⟩
    · have hkn : k = n := by omega
      subst hkn
      have HBX := Lib.hid hbx
      clear hbx
      have HT : Hid (K.take k = K) := by rw [Hid, ← HL.out, List.take_length]
      go_wp2
      go_ret
      have h1 := HQ.out
      have h2 := HO.out
      rw [HT.out] at h1 h2
      subst h1
      exact ⟨Ao, po, rfl, h2, HBX.out⟩
end Go.Proofs.Ytkibhinpbpgkeaa
