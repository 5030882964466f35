/- The walk of Replace of one piece by two. -/
import Derived.Test.YtpfceochplghlaaG
namespace Go.Proofs.Ytpfceochplghlaa
open Go.RowKit
attribute [local go_sem ↓] Go.wp_at_zero Go.wp_at_succ

set_option maxRecDepth 100000 in
set_option maxHeartbeats 2000000 in
theorem replace_any (W : World) (A : Option Addr) (n c i q : Nat) (L : List Pc) (l r : Pc) (h : W.ownsRow 0 53 3 (.slice A n c) n (pcs L)) (hi : i < n) (hn : n ≤ 1000000) (hq : W.heap[q]? = some (.cells (pcs [l, r]).toArray 53 (0, 0))) (hqA : q ∉ blk A) :
    Calls Try.prog 52 #[.slice A n c, .int .i64 i, .int .i64 ((i : Int) + 1), .slice (some ⟨q, 0, none⟩) 2 2] W fun e w' => ∃ A' c', e = .returned (.slice A' (n + 1) c') ∧ w'.ownsRow 0 53 3 (.slice A' (n + 1) c') (n + 1) (pcs (L.take i ++ [l, r] ++ L.drop (i + 1))) ∧ Chg (blk A) W w' ∧ (∀ ad, A' = some ad → A = some ad ∨ W.heap.size ≤ ad.block) := by
  obtain ⟨i0, hi0, hz0, hz1, hz2⟩ := info_parts info53
  have hL : L.length = n := by have h1 := h.1; rw [pcs_len] at h1; omega
  have hcap := own_cap h
  have hcm := hcap.2.2
  simp only [maxLen] at hcm
  rcases own_row h with ⟨_, h0, _⟩ | ⟨g, cur, rfl, hb, hg, hl, hnc, hm, ht⟩
  · omega
  · have hqg : q ≠ g := by simpa [blk] using hqA
    have hp1 : (pcs [l, r]).length = 6 := rfl
    have hsrcq : ∀ {w : World}, w.heap[q]? = some (.cells (pcs [l, r]).toArray 53 (0, 0)) → ∀ j v, (pcs [l, r])[j]? = some v → w.cell? ((⟨q, 0, none⟩ : Addr).add j) = some v := fun hw j v hv => by
      rw [add_lit, cell_of_row _ q j _ _ _ hw, ← hv]
      simp
    have hrq : Rds W W.heap.size 3 (some ⟨q, 0, none⟩) 2 (pcs [l, r]) := ⟨rfl, fun j hj => ⟨_, rfl, (Array.getElem?_eq_some_iff.1 hq).1, hsrcq hq j _ (List.getElem?_eq_getElem hj) |>.trans (List.getElem?_eq_getElem hj).symm⟩⟩
    have htk : ∀ k, k ≤ n → cur.take (k * 3) = pcs (L.take k) := fun k hk => by rw [← pcs_take, ← ht, List.take_take, Nat.min_eq_left (by omega)]
    have hwi : IntKind.i64.wrap ((i : Int) + 1) = (i : Int) + 1 := IntWalk.i64_in _ (by omega)
    have hwi2 : IntKind.i64.wrap ((i : Int) + 2) = (i : Int) + 2 := IntWalk.i64_in _ (by omega)
    have hne : ((i : Int) == (i : Int) + 1) = false := by simp; omega
    have hs1 := p_to (some ⟨g, 0, none⟩) n c i (by omega)
    have hVm := p_mid g n c i (i + 1) (by omega) (by omega) (by omega)
    have hVm' : ∀ w, (Instr.slice 50 (.slice (some ⟨g, 0, none⟩) n c) (some (.int .i64 (i : Int))) (some (.int .i64 ((i : Int) + 1))) none).run Try.prog w = .ok (.slice (some ⟨g, i * 3, none⟩) (i + 1 - i) (c - i)) w := hVm
    by_cases he : i + 1 = n
    · have hen : ((i : Int) + 1 == (n : Int)) = true := by simp; omega
      have HO : Hid (W.ownsRow 0 53 3 (.slice (some ⟨g, 0, none⟩) i c) i (pcs (L.take i))) := own_mk (Nat.zero_le _) hg hl (by omega) hm (htk i (by omega))
      have HRQ := Lib.hid hrq
      have e0 : pcs (L.take i ++ [l, r] ++ L.drop (i + 1)) = pcs (L.take i) ++ pcs [l, r] := by rw [List.drop_of_length_le (by omega), List.append_nil, pcs_append]
      have hlss : ¬ (i : Int) + 2 < (n : Int) := by omega
      have e1 : n + 1 = i + 2 := by omega
      rw [e0, e1]
      clear h hrq hq e0 e1 ht hg hsrcq htk hVm
      go_enter Try.func52, Try.ntmps52
      go_wp2_with (at_builtin; refine append_rds rfl (.tmp 32) (.tmp 33) 50 rfl 0 53 i0 _ 3 24 Try.underlying50 hi0 hz0 hz1 hz2 rfl (by omega) (.slice (some ⟨g, 0, none⟩) i c) i _ rfl HO.out W.heap.size (some ⟨q, 0, none⟩) 2 2 _ rfl HRQ.out (pcs_one _) (by simp only [maxLen]; omega) (by omega) (by omega) ?_)
      intro v1 w1 hown1 hg1 hat1
      obtain ⟨A1, c1, rfl, _, _⟩ := own_form hown1
      have HF := Lib.hid hown1
      have HG := Lib.hid hg1
      have HAT := Lib.hid hat1
      clear hown1 hg1 hat1
      go_wp2
      go_ret
      refine ⟨A1, c1, rfl, HF.out, (Chg.refl _ _).grown HG.out fun k hk => .inl (by simp [Value.ownBlock, blk] at hk ⊢; exact hk.symm), fun ad e => ?_⟩
      subst e
      rcases HAT.out with h1 | h1
      · left
        rcases own_row HF.out with ⟨e1, _⟩ | ⟨g1, _, e1, _⟩
        · cases e1
        · injection e1 with e1
          subst e1
          simp [Value.ownBlock] at h1
          rw [h1]
      · right
        simp [Value.ownBlock] at h1
        omega
    · have hin : i + 1 < n := by omega
      have hen : ((i : Int) + 1 == (n : Int)) = false := by simp; omega
      obtain ⟨d, hd⟩ : ∃ d, n - (i + 1) = d := ⟨_, rfl⟩
      have htot : (i : Int) + 2 + (d : Int) = (n : Int) + 1 := by omega
      have hwt : IntKind.i64.wrap ((i : Int) + 2 + (d : Int)) = (n : Int) + 1 := by rw [htot]; exact IntWalk.i64_in _ (by omega)
      obtain ⟨a1, hV1, ha1⟩ := p_from g n c (i + 1) (by omega)
      obtain rfl := ha1.out (by omega)
      rw [hd] at hV1
      have hV1' : ∀ w, (Instr.slice 50 (.slice (some ⟨g, 0, none⟩) n c) (some (.int .i64 ((i : Int) + 1))) none none).run Try.prog w = .ok (.slice (some ⟨g, (i + 1) * 3, none⟩) d (c - (i + 1))) w := hV1
      obtain ⟨L', hL'⟩ : ∃ L', L' = L.take i ++ L.drop (i + 1) := ⟨_, rfl⟩
      have hLi : (L.take i).length = i := by rw [List.length_take]; omega
      have e1 : L'.take i = L.take i := by rw [hL']; exact List.take_left' hLi
      have e2 : L'.drop i = L.drop (i + 1) := by rw [hL']; exact List.drop_left' hLi
      have hLn : L'.length = n - 1 := by rw [hL', List.length_append, hLi, List.length_drop]; omega
      have hdl : (pcs (L.drop (i + 1))).length = d * 3 := by rw [pcs_len, List.length_drop, hL, hd]
      have hsrcg : ∀ {w : World}, w.heap[g]? = some (.cells cur.toArray 53 (0, 0)) → ∀ j v, (pcs (L.drop (i + 1)))[j]? = some v → w.cell? ((⟨g, (i + 1) * 3, none⟩ : Addr).add j) = some v := fun hw j v hv => by
        rw [show (⟨g, (i + 1) * 3, none⟩ : Addr).add j = ⟨g, (i + 1) * 3 + j, none⟩ from by unfold Addr.add; split <;> simp_all]
        exact (row_cell hw _).trans (take_pcs_at ht (i + 1) j v hv)
      have hfinal : ∀ X, (n - 1 + 2) * 3 = X → X = (n + 1) * 3 := fun X e => by omega
      by_cases hgr : c < n + 1
      · have hgr1 : (c : Int) < (n : Int) + 1 := by omega
        obtain ⟨m, hmm⟩ : ∃ m, i + m = n + 1 := ⟨n + 1 - i, by omega⟩
        have hm1 : (n : Int) + 1 - (i : Int) = (m : Int) := by omega
        have hwm : IntKind.i64.wrap ((n : Int) + 1 - (i : Int)) = (m : Int) := by rw [hm1]; exact IntWalk.i64_in _ (by omega)
        obtain ⟨v1, w1, hrunZ, hownZ, hgrZ⟩ := run_append_zeros_grow (P := Try.prog) (w := W.drew) 50 3 50 53 i0 _ .i64 .i64 3 24 Try.underlying50 Try.underlying3 hi0 hz0 hz1 hz2 rfl (by decide) ⟨g, 0, none⟩ i c m (pcs (L.take i)) (by rw [pcs_len, hLi]) (fun j v hv => by
          rw [add_lit]
          refine (row_cell (w := W.drew) hg j).trans ?_
          rw [← htk i (by omega), List.getElem?_take] at hv
          split at hv
          · exact hv
          · cases hv) (by omega) (by omega) (by simp only [maxLen]; omega) (by omega)
        rw [hmm] at hownZ
        obtain ⟨A2, c2, rfl, hnc2, hm2⟩ := own_form hownZ
        rcases own_row hownZ with ⟨_, h0, _⟩ | ⟨g2, cur2, rfl, hb2, hg2, hl2, _, _, ht2⟩
        · omega
        · simp only [maxLen] at hm2
          have hb2 : W.heap.size ≤ g2 := hb2
          have hWg : g < W.heap.size := (Array.getElem?_eq_some_iff.1 hg).1
          have hWq : q < W.heap.size := (Array.getElem?_eq_some_iff.1 hq).1
          have hB1 : Below W.heap.size W w1 := ((Below.refl _ _).drew).grown hgrZ (Nat.le_refl _) (by simp)
          have hg1 := (hB1.block g hWg).trans hg
          have hq1 := (hB1.block q hWq).trans hq
          have ht2i : cur2.take (i * 3) = pcs (L'.take i) := by
            have e := congrArg (List.take (i * 3)) ht2
            rw [List.take_take, Nat.min_eq_left (by omega)] at e
            rw [e, e1]
            exact List.take_left' (by rw [pcs_len, hLi])
          obtain ⟨a2, hV2, ha2⟩ := p_from g2 (n + 1) c2 i (by omega)
          obtain rfl := ha2.out (by omega)
          obtain ⟨a3, hV3, ha3⟩ := p_from g2 (n + 1) c2 (i + 2) (by omega)
          obtain rfl := ha3.out (by omega)
          rw [show n + 1 - (i + 2) = d from by omega] at hV3
          have hV3' : ∀ w, (Instr.slice 50 (.slice (some ⟨g2, 0, none⟩) (n + 1) c2) (some (.int .i64 ((i : Int) + 2))) none none).run Try.prog w = .ok (.slice (some ⟨g2, (i + 2) * 3, none⟩) d (c2 - (i + 2))) w := hV3
          have hrunC1 := run_copy_z (P := Try.prog) (w := w1) 50 50 3 53 i0 3 Try.underlying50 hi0 hz1 g2 (i * 3) (n + 1 - i) (c2 - i) ⟨q, 0, none⟩ 2 2 2 cur2 53 (pcs [l, r]) hg2 (Nat.min_eq_left (show 2 ≤ n + 1 - i by omega)).symm rfl (hsrcq hq1) (by rw [hl2, hp1]; omega) (pcs_one _)
          have hgr1' := setRow_heap w1 g2 _ (splice cur2 (i * 3) (pcs [l, r])).toArray 53 (0, 0) hg2
          have hgg : ((w1.setRow g2 (splice cur2 (i * 3) (pcs [l, r])).toArray).drew).heap[g]? = some (.cells cur.toArray 53 (0, 0)) := (setRow_other w1 g2 g _ (by omega)).trans hg1
          have hl3 := splice_len cur2 (i * 3) (pcs [l, r]) (by rw [hl2, hp1]; omega)
          have hrunC2 := run_copy_z (P := Try.prog) (w := (w1.setRow g2 (splice cur2 (i * 3) (pcs [l, r])).toArray).drew) 50 50 3 53 i0 3 Try.underlying50 hi0 hz1 g2 ((i + 2) * 3) d (c2 - (i + 2)) ⟨g, (i + 1) * 3, none⟩ d (c - (i + 1)) d _ 53 (pcs (L.drop (i + 1))) hgr1' (Nat.min_self _).symm hdl (hsrcg hgg) (by rw [hl3, hl2, hdl]; omega) (pcs_one _)
          have hfin := setRow_heap ((w1.setRow g2 (splice cur2 (i * 3) (pcs [l, r])).toArray).drew) g2 _ (splice (splice cur2 (i * 3) (pcs [l, r])) ((i + 2) * 3) (pcs (L.drop (i + 1)))).toArray 53 (0, 0) hgr1'
          have hlen4 := splice_len (splice cur2 (i * 3) (pcs [l, r])) ((i + 2) * 3) (pcs (L.drop (i + 1))) (by rw [hl3, hl2, hdl]; omega)
          have hins := ins_fin2 (P := [l, r]) (c := c2) ht2i hl2 hLn (by omega) (by show n - 1 + 2 ≤ c2; omega)
          rw [e1, e2, show n - 1 + [l, r].length = n + 1 from by show n - 1 + 2 = n + 1; omega] at hins
          have HP : Hid (((w1.setRow g2 (splice cur2 (i * 3) (pcs [l, r])).toArray).drew.setRow g2 (splice (splice cur2 (i * 3) (pcs [l, r])) ((i + 2) * 3) (pcs (L.drop (i + 1)))).toArray).ownsRow 0 53 3 (.slice (some ⟨g2, 0, none⟩) (n + 1) c2) (n + 1) (pcs (L.take i ++ [l, r] ++ L.drop (i + 1)))) :=
            own_mk (Nat.zero_le _) hfin (by rw [hlen4, hl3, hl2]) hnc2 (by simp only [maxLen]; omega) hins
          have HC : Hid (Chg (blk (some ⟨g, 0, none⟩)) W ((w1.setRow g2 (splice cur2 (i * 3) (pcs [l, r])).toArray).drew.setRow g2 (splice (splice cur2 (i * 3) (pcs [l, r])) ((i + 2) * 3) (pcs (L.drop (i + 1)))).toArray)) := (((Chg.of_below hB1).setRow (.inr hb2) _).drew).setRow (.inr hb2) _
          clear hfin hgr1' hgg hg1 hq1 hB1 ht2 ht2i h hrq hg hq hg2 hownZ hgrZ hlen4 hins hV3 hV1 hVm hfinal hsrcg hsrcq htk hL' e1 e2 hLn
          go_enter Try.func52, Try.ntmps52
          go_wp2
          go_region
          go_wp2_with (at_builtin; refine wpList_append_run2 rfl (.tmp 63) (.tmp 66) 50 3 rfl _ _ rfl rfl hrunZ ?_)
          go_region
          go_wp2
          go_ret
          exact ⟨_, _, rfl, HP.out, HC.out, fun ad e => .inr (by injection e with e; subst e; exact hb2)⟩
      · have hgr1 : ¬ (c : Int) < (n : Int) + 1 := by omega
        have hgr2 : (n : Int) + 1 ≤ (c : Int) := by omega
        have hij : ¬ (i : Int) + 2 ≤ (i : Int) + 1 := by omega
        have hV0 := p_to (some ⟨g, 0, none⟩) n c (n + 1) (by omega)
        have hV0' : ∀ w, (Instr.slice 50 (.slice (some ⟨g, 0, none⟩) n c) none (some (.int .i64 ((n : Int) + 1))) none).run Try.prog w = .ok (.slice (some ⟨g, 0, none⟩) (n + 1) c) w := hV0
        obtain ⟨a2, hV2, ha2⟩ := p_from g (n + 1) c i (by omega)
        obtain rfl := ha2.out (by omega)
        obtain ⟨a3, hV3, ha3⟩ := p_from g (n + 1) c (i + 2) (by omega)
        obtain rfl := ha3.out (by omega)
        rw [show n + 1 - (i + 2) = d from by omega] at hV3
        have hV3' : ∀ w, (Instr.slice 50 (.slice (some ⟨g, 0, none⟩) (n + 1) c) (some (.int .i64 ((i : Int) + 2))) none none).run Try.prog w = .ok (.slice (some ⟨g, (i + 2) * 3, none⟩) d (c - (i + 2))) w := hV3
        have hov : ∀ w : World, w = W.drew → (callFunc 55 #[.slice (some ⟨g, (i + 2) * 3, none⟩) d (c - (i + 2)), .slice (some ⟨q, 0, none⟩) 2 2]).run Try.prog w = .ok (.value (.bool false)) w := fun w e => by
          subst e
          exact overlaps_no W.drew g ((i + 2) * 3) q 0 d (c - (i + 2)) 2 2 _ _ (Ne.symm hqg) hg hq (by simp [hp1])
        have hov1 := hov W.drew rfl
        have hrunC1 := run_copy_z (P := Try.prog) (w := W.drew.drew) 50 50 3 53 i0 3 Try.underlying50 hi0 hz1 g ((i + 2) * 3) d (c - (i + 2)) ⟨g, (i + 1) * 3, none⟩ d (c - (i + 1)) d cur 53 (pcs (L.drop (i + 1))) hg (Nat.min_self _).symm hdl (hsrcg hg) (by rw [hl, hdl]; omega) (pcs_one _)
        have hg1 := setRow_heap W.drew.drew g _ (splice cur ((i + 2) * 3) (pcs (L.drop (i + 1)))).toArray 53 (0, 0) hg
        have hl1 := splice_len cur ((i + 2) * 3) (pcs (L.drop (i + 1))) (by rw [hl, hdl]; omega)
        have hq1 : (W.drew.drew.setRow g (splice cur ((i + 2) * 3) (pcs (L.drop (i + 1)))).toArray).heap[q]? = some (.cells (pcs [l, r]).toArray 53 (0, 0)) := (setRow_other W.drew.drew g q _ hqg).trans hq
        have hrunC2 := run_copy_z (P := Try.prog) (w := W.drew.drew.setRow g (splice cur ((i + 2) * 3) (pcs (L.drop (i + 1)))).toArray) 50 50 3 53 i0 3 Try.underlying50 hi0 hz1 g (i * 3) (n + 1 - i) (c - i) ⟨q, 0, none⟩ 2 2 2 _ 53 (pcs [l, r]) hg1 (Nat.min_eq_left (show 2 ≤ n + 1 - i by omega)).symm rfl (hsrcq hq1) (by rw [hl1, hl, hp1]; omega) (pcs_one _)
        have hfin := setRow_heap (W.drew.drew.setRow g (splice cur ((i + 2) * 3) (pcs (L.drop (i + 1)))).toArray) g _ (splice (splice cur ((i + 2) * 3) (pcs (L.drop (i + 1)))) (i * 3) (pcs [l, r])).toArray 53 (0, 0) hg1
        have hti : cur.take (i * 3) = pcs (L'.take i) := by rw [e1]; exact htk i (by omega)
        have hins := ins_fin (P := [l, r]) (c := c) hti hl hLn (by omega) (by show n - 1 + 2 ≤ c; omega)
        rw [e1, e2, show n - 1 + [l, r].length = n + 1 from by show n - 1 + 2 = n + 1; omega] at hins
        have HP : Hid (((W.drew.drew.setRow g (splice cur ((i + 2) * 3) (pcs (L.drop (i + 1)))).toArray).setRow g (splice (splice cur ((i + 2) * 3) (pcs (L.drop (i + 1)))) (i * 3) (pcs [l, r])).toArray).ownsRow 0 53 3 (.slice (some ⟨g, 0, none⟩) (n + 1) c) (n + 1) (pcs (L.take i ++ [l, r] ++ L.drop (i + 1)))) :=
          own_mk (Nat.zero_le _) hfin (by rw [splice_len _ _ _ (by rw [hl1, hl, hp1]; omega), hl1, hl]) (by omega) hm hins
        have HC : Hid (Chg (blk (some ⟨g, 0, none⟩)) W ((W.drew.drew.setRow g (splice cur ((i + 2) * 3) (pcs (L.drop (i + 1)))).toArray).setRow g (splice (splice cur ((i + 2) * 3) (pcs (L.drop (i + 1)))) (i * 3) (pcs [l, r])).toArray)) := (((Chg.refl _ _).drew.drew).setRow (.inl (by simp [blk])) _).setRow (.inl (by simp [blk])) _
        clear hfin hg1 hq1 ht h hrq hg hq hV0 hV3 hV1 hVm hsrcg hsrcq htk hins hfinal hov hti hL' e1 e2 hLn
        go_enter Try.func52, Try.ntmps52
        go_wp2
        go_region
        go_wp2
        go_region
        go_wp2
        go_ret
        exact ⟨_, _, rfl, HP.out, HC.out, fun ad e => .inl e⟩
end Go.Proofs.Ytpfceochplghlaa
