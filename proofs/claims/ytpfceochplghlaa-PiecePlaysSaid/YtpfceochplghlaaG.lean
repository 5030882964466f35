/- The walk of Insert of one piece. -/
import Derived.Test.YtpfceochplghlaaF
import Derived.Laws.Externs
namespace Go.Proofs.Ytpfceochplghlaa
open Go.RowKit
attribute [local go_sem ↓] Go.wp_at_zero Go.wp_at_succ

theorem under53 : Try.prog.underlying 50 = some (.slice 53) := Try.underlying50
theorem sz53 (w : World) : (Go.sizeOf 53).run Try.prog w = .ok 3 w := by kernel_rfl
theorem overlaps_no (w : World) (g1 o1 g2 o2 la ca lb cb : Nat) (c1 c2 : Array Value) (hne : g1 ≠ g2) (h1 : w.heap[g1]? = some (.cells c1 53 (0, 0))) (h2 : w.heap[g2]? = some (.cells c2 53 (0, 0))) (hz : c2.size ≠ 0) :
    (callFunc 55 #[.slice (some ⟨g1, o1, none⟩) la ca, .slice (some ⟨g2, o2, none⟩) lb cb]).run Try.prog w = .ok (.value (.bool false)) w := by
  rw [run_callFunc_extern Try.func55 (by kernel_rfl) (by kernel_rfl) (by kernel_rfl) (e := Extern.SlicesOverlaps.overlaps #[50, 50] #[4]) (by kernel_rfl),
    Lib.run_overlaps_apart w 50 4 53 under53 3 sz53 ⟨g1, o1, none⟩ ⟨g2, o2, none⟩ la ca lb cb hne 53 53 c1.size c2.size (by simp [World.shape?, h1]) (by simp [World.shape?, h2]) hz (frozen_of_row w g1 o1 _ _ h1) (frozen_of_row w g1 c1.size _ _ h1)]
  rfl
/-- What a piece's own block holds. -/
def pbox (p : Pc) : Array Value := #[.bool p.add, .int .i64 p.fr, .int .i64 p.ln]
/-- What stands in the row at the end: x, then the pieces, then y. -/
theorem ins_fin {cur : List Value} {n i c : Nat} {L P : List Pc} (ht : cur.take (i * 3) = pcs (L.take i)) (hl : cur.length = c * 3) (hL : L.length = n) (hi : i ≤ n) (hc : n + P.length ≤ c) :
    (splice (splice cur ((i + P.length) * 3) (pcs (L.drop i))) (i * 3) (pcs P)).take ((n + P.length) * 3) = pcs (L.take i ++ P ++ L.drop i) := by
  have hd : (pcs (L.drop i)).length = (n - i) * 3 := by rw [pcs_len, List.length_drop, hL]
  have hp : (pcs P).length = P.length * 3 := pcs_len P
  have e1 : (splice cur ((i + P.length) * 3) (pcs (L.drop i))).take (i * 3) = cur.take (i * 3) := by
    unfold splice
    rw [List.take_append_of_le_length (by rw [List.length_take, hl]; omega), List.take_take, Nat.min_eq_left (by omega)]
  have e2 : (splice cur ((i + P.length) * 3) (pcs (L.drop i))).drop (i * 3 + (pcs P).length) = pcs (L.drop i) ++ cur.drop ((i + P.length) * 3 + (pcs (L.drop i)).length) := by
    unfold splice
    rw [hp, show i * 3 + P.length * 3 = (i + P.length) * 3 from by omega]
    exact List.drop_left' (by rw [List.length_take, hl]; omega)
  have e3 : splice (splice cur ((i + P.length) * 3) (pcs (L.drop i))) (i * 3) (pcs P) = pcs (L.take i ++ P ++ L.drop i) ++ cur.drop ((i + P.length) * 3 + (pcs (L.drop i)).length) := by
    conv => lhs; rw [splice]
    rw [e1, e2, ht, pcs_append, pcs_append]
    simp only [List.append_assoc]
  rw [e3]
  refine List.take_left' ?_
  rw [pcs_len, List.length_append, List.length_append, List.length_take, List.length_drop, hL]
  omega
/-- The same, the pieces laid first. -/
theorem ins_fin2 {cur : List Value} {n i c : Nat} {L P : List Pc} (ht : cur.take (i * 3) = pcs (L.take i)) (hl : cur.length = c * 3) (hL : L.length = n) (hi : i ≤ n) (hc : n + P.length ≤ c) :
    (splice (splice cur (i * 3) (pcs P)) ((i + P.length) * 3) (pcs (L.drop i))).take ((n + P.length) * 3) = pcs (L.take i ++ P ++ L.drop i) := by
  have hd : (pcs (L.drop i)).length = (n - i) * 3 := by rw [pcs_len, List.length_drop, hL]
  have hp : (pcs P).length = P.length * 3 := pcs_len P
  have e0 : (i + P.length) * 3 = i * 3 + (pcs P).length := by rw [hp]; omega
  have hf : i * 3 + (pcs P).length ≤ cur.length := by rw [hp, hl]; omega
  have e1 := splice_take2 cur (i * 3) (pcs P) hf
  have e3 : (n + P.length) * 3 = (i + P.length) * 3 + (pcs (L.drop i)).length := by rw [hd]; omega
  rw [e3, splice_take2 _ _ _ (by rw [splice_len _ _ _ hf, hd, hl]; omega), e0, e1, ht, pcs_append, pcs_append]

set_option maxRecDepth 100000 in
set_option maxHeartbeats 1000000 in
theorem insert_any (W : World) (A : Option Addr) (n c i q : Nat) (L : List Pc) (p : Pc) (h : W.ownsRow 0 53 3 (.slice A n c) n (pcs L)) (hi : i ≤ n) (hn : n ≤ 1000000) (hq : W.heap[q]? = some (.cells (pbox p) 53 (0, 0))) (hqA : q ∉ blk A) :
    Calls Try.prog 53 #[.slice A n c, .int .i64 i, .slice (some ⟨q, 0, none⟩) 1 1] W fun e w' => ∃ A' c', e = .returned (.slice A' (n + 1) c') ∧ w'.ownsRow 0 53 3 (.slice A' (n + 1) c') (n + 1) (pcs (L.take i ++ [p] ++ L.drop i)) ∧ Chg (blk A) W w' ∧ (∀ ad, A' = some ad → A = some ad ∨ W.heap.size ≤ ad.block) := by
  obtain ⟨i0, hi0, hz0, hz1, hz2⟩ := info_parts info53
  have hL : L.length = n := by have h1 := h.1; rw [pcs_len] at h1; omega
  have hcap := own_cap h
  have hcm := hcap.2.2
  simp only [maxLen] at hcm
  have hrq : Rds W W.heap.size 3 (some ⟨q, 0, none⟩) 1 (pcs [p]) := by
    refine ⟨rfl, fun j hj => ⟨_, rfl, (Array.getElem?_eq_some_iff.1 hq).1, ?_⟩⟩
    rw [add_lit, cell_of_row W q j _ _ _ hq]
    have hj3 : j = 0 ∨ j = 1 ∨ j = 2 := by rw [pcs_len] at hj; simp at hj; omega
    rcases hj3 with rfl | rfl | rfl <;> rfl
  by_cases he : i = n
  · subst he
    have hs : ∃ V, ∀ w, (Instr.slice 50 (.slice A i c) (some (.int .i64 (i : Int))) none none).run Try.prog w = .ok V w := by
      refine ⟨sliced A i i c 3, fun w => ?_⟩
      rw [run_slice_l (t := 50) w A i c elem50 .i64 (i : Int) (by omega) (by omega), size53]
      simp [Result.andThen]
    obtain ⟨V, hV⟩ := hs
    have H := Lib.hid h
    have HRQ := Lib.hid hrq
    have e0 : pcs (L.take i ++ [p] ++ L.drop i) = pcs L ++ pcs [p] := by rw [List.take_of_length_le (by omega), List.drop_of_length_le (by omega), List.append_nil, pcs_append]
    rw [e0]
    clear h hrq hq e0
    go_enter Try.func53, Try.ntmps53
    go_wp2_with (at_builtin; refine append_rds rfl (.tmp 23) (.tmp 24) 50 rfl 0 53 i0 _ 3 24 Try.underlying50 hi0 hz0 hz1 hz2 rfl (by omega) (.slice A i c) i _ rfl H.out W.heap.size (some ⟨q, 0, none⟩) 1 1 _ rfl HRQ.out (pcs_one _) (by simp only [maxLen]; omega) (by omega) (by omega) ?_)
    intro v1 w1 hown1 hg1 hat1
    obtain ⟨A1, c1, rfl, _, _⟩ := own_form hown1
    go_wp2
    go_ret
    refine ⟨A1, c1, rfl, hown1, (Chg.refl _ _).grown hg1 fun k hk => ?_, fun ad e => ?_⟩
    · left
      cases A with
      | none => simp [Value.ownBlock] at hk
      | some a => simp [Value.ownBlock, blk] at hk ⊢; exact hk.symm
    · subst e
      rcases hat1 with h1 | h1
      · left
        rcases own_row hown1 with ⟨e1, _⟩ | ⟨g1, _, e1, _⟩
        · cases e1
        · rcases own_row H.out with ⟨e2, _⟩ | ⟨g2, _, e2, _⟩
          · subst e2; simp [Value.ownBlock] at h1
          · subst e2
            injection e1 with e1
            subst e1
            simp [Value.ownBlock] at h1
            rw [h1]
      · right
        simp [Value.ownBlock] at h1
        omega
  · rcases own_row h with ⟨_, h0, _⟩ | ⟨g, cur, rfl, hb, hg, hl, hnc, hm, ht⟩
    · omega
    · have hqg : q ≠ g := by simpa [blk] using hqA
      have hin : i < n := by omega
      have hi1 : ((i : Int) == (n : Int)) = false := by simp; omega
      obtain ⟨a1, hV1, ha1⟩ := p_from g n c i hi
      obtain rfl := ha1.out (by omega)
      have htk : ∀ k, k ≤ n → cur.take (k * 3) = pcs (L.take k) := fun k hk => by rw [← pcs_take, ← ht, List.take_take, Nat.min_eq_left (by omega)]
      have hdl : (pcs (L.drop i)).length = (n - i) * 3 := by rw [pcs_len, List.length_drop, hL]
      have hwi : IntKind.i64.wrap ((i : Int) + 1) = (i : Int) + 1 := IntWalk.i64_in _ (by omega)
      have hwn : IntKind.i64.wrap ((n : Int) + 1) = (n : Int) + 1 := IntWalk.i64_in _ (by omega)
      have hsrcq : ∀ {w : World}, w.heap[q]? = some (.cells (pbox p) 53 (0, 0)) → ∀ j v, (pcs [p])[j]? = some v → w.cell? ((⟨q, 0, none⟩ : Addr).add j) = some v := fun hw j v hv => by
        rw [add_lit, cell_of_row _ q j _ _ _ hw, ← hv]
        have hlt := (List.getElem?_eq_some_iff.1 hv).1
        have hj3 : j = 0 ∨ j = 1 ∨ j = 2 := by rw [pcs_len] at hlt; simp at hlt; omega
        rcases hj3 with rfl | rfl | rfl <;> rfl
      have hsrcg : ∀ {w : World}, w.heap[g]? = some (.cells cur.toArray 53 (0, 0)) → ∀ j v, (pcs (L.drop i))[j]? = some v → w.cell? ((⟨g, i * 3, none⟩ : Addr).add j) = some v := fun hw j v hv => by
        rw [show (⟨g, i * 3, none⟩ : Addr).add j = ⟨g, i * 3 + j, none⟩ from by unfold Addr.add; split <;> simp_all]
        exact (row_cell hw _).trans (take_pcs_at ht i j v hv)
      by_cases hgr : c < n + 1
      · have hgr1 : (c : Int) < (n : Int) + 1 := by omega
        obtain ⟨m, hmm⟩ : ∃ m, i + m = n + 1 := ⟨n + 1 - i, by omega⟩
        have hm1 : (n : Int) + 1 - (i : Int) = (m : Int) := by omega
        have hwm : IntKind.i64.wrap ((n : Int) + 1 - (i : Int)) = (m : Int) := by rw [hm1]; exact IntWalk.i64_in _ (by omega)
        have hs1 := p_to (some ⟨g, 0, none⟩) n c i (by omega)
        obtain ⟨v1, w1, hrunZ, hownZ, hgrZ⟩ := run_append_zeros_grow (P := Try.prog) (w := W) 50 3 50 53 i0 _ .i64 .i64 3 24 Try.underlying50 Try.underlying3 hi0 hz0 hz1 hz2 rfl (by decide) ⟨g, 0, none⟩ i c m (pcs (L.take i)) (by rw [pcs_len, List.length_take, hL]; omega) (fun j v hv => by
          rw [add_lit]
          refine (row_cell hg j).trans ?_
          rw [← htk i hi, List.getElem?_take] at hv
          split at hv
          · exact hv
          · cases hv) (by omega) (by omega) (by simp only [maxLen]; omega) (by omega)
        rw [hmm] at hownZ
        obtain ⟨A2, c2, rfl, hnc2, hm2⟩ := own_form hownZ
        rcases own_row hownZ with ⟨_, h0, _⟩ | ⟨g2, cur2, rfl, hb2, hg2, hl2, _, _, ht2⟩
        · omega
        · simp only [maxLen] at hm2
          have hWg : g < W.heap.size := (Array.getElem?_eq_some_iff.1 hg).1
          have hWq : q < W.heap.size := (Array.getElem?_eq_some_iff.1 hq).1
          have hB1 : Below W.heap.size W w1 := (Below.refl _ _).grown hgrZ (Nat.le_refl _) (by simp)
          have hg1 := (hB1.block g hWg).trans hg
          have hq1 := (hB1.block q hWq).trans hq
          have ht2i : cur2.take (i * 3) = pcs (L.take i) := by
            have e := congrArg (List.take (i * 3)) ht2
            rw [List.take_take, Nat.min_eq_left (by omega)] at e
            rw [e]
            exact List.take_left' (by rw [pcs_len, List.length_take, hL]; omega)
          obtain ⟨a2, hV2, ha2⟩ := p_from g2 (n + 1) c2 i (by omega)
          obtain rfl := ha2.out (by omega)
          obtain ⟨a3, hV3, ha3⟩ := p_from g2 (n + 1) c2 (i + 1) (by omega)
          obtain rfl := ha3.out (by omega)
          rw [show n + 1 - (i + 1) = n - i from by omega] at hV3
          have hV3' : ∀ w, (Instr.slice 50 (.slice (some ⟨g2, 0, none⟩) (n + 1) c2) (some (.int .i64 ((i : Int) + 1))) none none).run Try.prog w = .ok (.slice (some ⟨g2, (i + 1) * 3, none⟩) (n - i) (c2 - (i + 1))) w := hV3
          have hrunC1 := run_copy_z (P := Try.prog) (w := w1) 50 50 3 53 i0 3 Try.underlying50 hi0 hz1 g2 (i * 3) (n + 1 - i) (c2 - i) ⟨q, 0, none⟩ 1 1 1 cur2 53 (pcs [p]) hg2 (by simp [Nat.min_def]; omega) rfl (hsrcq hq1) (by rw [hl2, pcs_len]; simp; omega) (pcs_one _)
          have hp1 : (pcs [p]).length = 3 := rfl
          have hgr1' := setRow_heap w1 g2 _ (splice cur2 (i * 3) (pcs [p])).toArray 53 (0, 0) hg2
          have hgg : ((w1.setRow g2 (splice cur2 (i * 3) (pcs [p])).toArray).drew).heap[g]? = some (.cells cur.toArray 53 (0, 0)) := (setRow_other w1 g2 g _ (by omega)).trans hg1
          have hl3 := splice_len cur2 (i * 3) (pcs [p]) (by rw [hl2, hp1]; omega)
          have hrunC2 := run_copy_z (P := Try.prog) (w := (w1.setRow g2 (splice cur2 (i * 3) (pcs [p])).toArray).drew) 50 50 3 53 i0 3 Try.underlying50 hi0 hz1 g2 ((i + 1) * 3) (n - i) (c2 - (i + 1)) ⟨g, i * 3, none⟩ (n - i) (c - i) (n - i) _ 53 (pcs (L.drop i)) hgr1' (Nat.min_self _).symm hdl (hsrcg hgg) (by rw [hl3, hl2, hdl]; omega) (pcs_one _)
          have hfin := setRow_heap ((w1.setRow g2 (splice cur2 (i * 3) (pcs [p])).toArray).drew) g2 _ (splice (splice cur2 (i * 3) (pcs [p])) ((i + 1) * 3) (pcs (L.drop i))).toArray 53 (0, 0) hgr1'
          have hlen4 := splice_len (splice cur2 (i * 3) (pcs [p])) ((i + 1) * 3) (pcs (L.drop i)) (by rw [hl3, hl2, hdl]; omega)
          have hpost : ((w1.setRow g2 (splice cur2 (i * 3) (pcs [p])).toArray).drew.setRow g2 (splice (splice cur2 (i * 3) (pcs [p])) ((i + 1) * 3) (pcs (L.drop i))).toArray).ownsRow 0 53 3 (.slice (some ⟨g2, 0, none⟩) (n + 1) c2) (n + 1) (pcs (L.take i ++ [p] ++ L.drop i)) :=
            own_mk (Nat.zero_le _) hfin (by rw [hlen4, hl3, hl2]) hnc2 (by simp only [maxLen]; omega) (ins_fin2 (P := [p]) (c := c2) ht2i hl2 hL hi (by show n + 1 ≤ c2; omega))
          have HP := Lib.hid hpost
          have HC : Hid (Chg (blk (some ⟨g, 0, none⟩)) W ((w1.setRow g2 (splice cur2 (i * 3) (pcs [p])).toArray).drew.setRow g2 (splice (splice cur2 (i * 3) (pcs [p])) ((i + 1) * 3) (pcs (L.drop i))).toArray)) := (((Chg.of_below hB1).setRow (.inr hb2) _).drew).setRow (.inr hb2) _
          clear hpost hfin hgr1' hgg hg1 hq1 hB1 ht2 ht2i h hrq hg hq hg2 hownZ hgrZ hlen4
          go_enter Try.func53, Try.ntmps53
          go_wp2_with (at_builtin; refine wpList_append_run2 rfl (.tmp 34) (.tmp 39) 50 3 rfl _ _ rfl rfl hrunZ ?_)
          go_region
          go_wp2
          go_ret
          exact ⟨_, _, rfl, HP.out, HC.out, fun ad e => .inr (by injection e with e; subst e; exact hb2)⟩
      · have hgr1 : ¬ (c : Int) < (n : Int) + 1 := by omega
        have hgr2 : (n : Int) + 1 ≤ (c : Int) := by omega
        have hV0 := p_to (some ⟨g, 0, none⟩) n c (n + 1) (by omega)
        have hV0' : ∀ w, (Instr.slice 50 (.slice (some ⟨g, 0, none⟩) n c) none (some (.int .i64 ((n : Int) + 1))) none).run Try.prog w = .ok (.slice (some ⟨g, 0, none⟩) (n + 1) c) w := hV0
        obtain ⟨a2, hV2, ha2⟩ := p_from g (n + 1) c i (by omega)
        obtain rfl := ha2.out (by omega)
        obtain ⟨a3, hV3, ha3⟩ := p_from g (n + 1) c (i + 1) (by omega)
        obtain rfl := ha3.out (by omega)
        rw [show n + 1 - (i + 1) = n - i from by omega] at hV3
        have hV3' : ∀ w, (Instr.slice 50 (.slice (some ⟨g, 0, none⟩) (n + 1) c) (some (.int .i64 ((i : Int) + 1))) none none).run Try.prog w = .ok (.slice (some ⟨g, (i + 1) * 3, none⟩) (n - i) (c - (i + 1))) w := hV3
        have hov := overlaps_no W q 0 g ((i + 1) * 3) 1 1 (n - i) (c - (i + 1)) _ _ hqg hq hg (by simp [hl]; omega)
        have hrunC1 := run_copy_z (P := Try.prog) (w := W.drew) 50 50 3 53 i0 3 Try.underlying50 hi0 hz1 g ((i + 1) * 3) (n - i) (c - (i + 1)) ⟨g, i * 3, none⟩ (n + 1 - i) (c - i) (n - i) cur 53 (pcs (L.drop i)) hg (Nat.min_eq_right (show n - i ≤ n + 1 - i by omega)).symm hdl (hsrcg hg) (by rw [hl, hdl]; omega) (pcs_one _)
        have hg1 := setRow_heap W.drew g _ (splice cur ((i + 1) * 3) (pcs (L.drop i))).toArray 53 (0, 0) hg
        have hl1 := splice_len cur ((i + 1) * 3) (pcs (L.drop i)) (by rw [hl, hdl]; omega)
        have hq1 : (W.drew.setRow g (splice cur ((i + 1) * 3) (pcs (L.drop i))).toArray).heap[q]? = some (.cells (pbox p) 53 (0, 0)) := (setRow_other W.drew g q _ hqg).trans hq
        have hp1 : (pcs [p]).length = 3 := rfl
        have hrunC2 := run_copy_z (P := Try.prog) (w := W.drew.setRow g (splice cur ((i + 1) * 3) (pcs (L.drop i))).toArray) 50 50 3 53 i0 3 Try.underlying50 hi0 hz1 g (i * 3) (n + 1 - i) (c - i) ⟨q, 0, none⟩ 1 1 1 _ 53 (pcs [p]) hg1 (Nat.min_eq_left (show 1 ≤ n + 1 - i by omega)).symm rfl (hsrcq hq1) (by rw [hl1, hl, hp1]; omega) (pcs_one _)
        have hfin := setRow_heap (W.drew.setRow g (splice cur ((i + 1) * 3) (pcs (L.drop i))).toArray) g _ (splice (splice cur ((i + 1) * 3) (pcs (L.drop i))) (i * 3) (pcs [p])).toArray 53 (0, 0) hg1
        have HP : Hid (((W.drew.setRow g (splice cur ((i + 1) * 3) (pcs (L.drop i))).toArray).setRow g (splice (splice cur ((i + 1) * 3) (pcs (L.drop i))) (i * 3) (pcs [p])).toArray).ownsRow 0 53 3 (.slice (some ⟨g, 0, none⟩) (n + 1) c) (n + 1) (pcs (L.take i ++ [p] ++ L.drop i))) :=
          own_mk (Nat.zero_le _) hfin (by rw [splice_len _ _ _ (by rw [hl1, hl, hp1]; omega), hl1, hl]) (by omega) hm (ins_fin (P := [p]) (c := c) (htk i hi) hl hL hi (by show n + 1 ≤ c; omega))
        have HC : Hid (Chg (blk (some ⟨g, 0, none⟩)) W ((W.drew.setRow g (splice cur ((i + 1) * 3) (pcs (L.drop i))).toArray).setRow g (splice (splice cur ((i + 1) * 3) (pcs (L.drop i))) (i * 3) (pcs [p])).toArray)) := ((Chg.refl _ _).drew.setRow (.inl (by simp [blk])) _).setRow (.inl (by simp [blk])) _
        clear hfin hg1 hq1 ht h hrq hg hq hV0 hV3 hsrcg hsrcq htk
        go_enter Try.func53, Try.ntmps53
        go_wp2
        go_region
        go_wp2
        go_ret
        exact ⟨_, _, rfl, HP.out, HC.out, fun ad e => .inl e⟩
end Go.Proofs.Ytpfceochplghlaa
