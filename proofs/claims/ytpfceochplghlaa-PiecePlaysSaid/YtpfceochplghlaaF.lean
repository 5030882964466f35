/- The walk of Delete. -/
import Derived.Test.YtpfceochplghlaaE
import Derived.Test.YtpfceochplghlaaChg
import Derived.Deep.RegionLaw
namespace Go.Proofs.Ytpfceochplghlaa
open Go.RowKit
attribute [local go_sem ↓] Go.wp_at_zero Go.wp_at_succ

theorem own_row {w : World} {base z n c : Nat} {e : TypeId} {A : Option Addr} {xs : List Value} (h : w.ownsRow base e z (.slice A n c) n xs) :
    (A = none ∧ n = 0 ∧ c = 0 ∧ xs = []) ∨ ∃ (g : Nat) (cur : List Value), A = some ⟨g, 0, none⟩ ∧ base ≤ g ∧ w.heap[g]? = some (.cells cur.toArray e (0, 0)) ∧ cur.length = c * z ∧ n ≤ c ∧ c ≤ maxLen ∧ cur.take (n * z) = xs := by
  have h1 := h.1
  rcases h.2 with ⟨hv, h0⟩ | ⟨g, cap, cur, hv, hb, hg, hc, hm, hs, ht⟩
  · injection hv with a1 a2 a3
    subst h0
    exact .inl ⟨a1, rfl, a3, List.eq_nil_of_length_eq_zero (by simpa using h1)⟩
  · injection hv with a1 a2 a3
    subst a3
    exact .inr ⟨g, cur.toList, a1, hb, by simpa using hg, by simpa using hs, hc, hm, ht⟩
theorem own_mk {w : World} {base z n c g : Nat} {e : TypeId} {xs cur : List Value} (hb : base ≤ g) (hg : w.heap[g]? = some (.cells cur.toArray e (0, 0))) (hl : cur.length = c * z) (hn : n ≤ c) (hm : c ≤ maxLen) (ht : cur.take (n * z) = xs) :
    w.ownsRow base e z (.slice (some ⟨g, 0, none⟩) n c) n xs := by
  refine ⟨?_, .inr ⟨g, c, cur.toArray, rfl, hb, hg, hn, hm, by simpa using hl, by simpa using ht⟩⟩
  rw [← ht, List.length_take, hl]
  exact Nat.min_eq_left (Nat.mul_le_mul_right _ hn)
theorem elem50 : Try.prog.underlying 50 = some (.slice (Try.prog.elem 50)) := by kernel_rfl
theorem size53 (w : World) : (sizeOf (Try.prog.elem 50)).run Try.prog w = .ok 3 w := by kernel_rfl
theorem add_lit (g o : Nat) : (⟨g, 0, none⟩ : Addr).add o = ⟨g, o, none⟩ := by unfold Addr.add; split <;> simp_all
theorem p_to (A : Option Addr) (n c k : Nat) (hk : k ≤ c) : ∀ w, (Instr.slice 50 (.slice A n c) none (some (.int .i64 (k : Int))) none).run Try.prog w = .ok (.slice A k c) w := by
  intro w
  rw [run_slice_h (t := 50) w A n c elem50 .i64 (k : Int) (by omega) (by omega), size53]
  have e : (A.map fun x => x.add 0) = A := by cases A <;> rfl
  simp [Result.andThen, sliced, e]
/-- 's[k:]': an address, where one is wanted the k-th element's. -/
theorem p_from (g n c k : Nat) (hk : k ≤ n) : ∃ a : Addr, (∀ w, (Instr.slice 50 (.slice (some ⟨g, 0, none⟩) n c) (some (.int .i64 (k : Int))) none none).run Try.prog w = .ok (.slice (some a) (n - k) (c - k)) w) ∧ Hid (k < c → a = ⟨g, k * 3, none⟩) := by
  refine ⟨if c = k then ⟨g, 0, none⟩ else ⟨g, k * 3, none⟩, fun w => ?_, fun h => by rw [if_neg (by omega)]⟩
  rw [run_slice_l (t := 50) w _ n c elem50 .i64 (k : Int) (by omega) (by omega), size53]
  by_cases h : c = k
  · simp [Result.andThen, sliced, h]
  · simp [Result.andThen, sliced, h, add_lit]
theorem p_mid (g n c k m : Nat) (hk : k ≤ m) (hm : m ≤ c) (hkc : k < c) : ∀ w, (Instr.slice 50 (.slice (some ⟨g, 0, none⟩) n c) (some (.int .i64 (k : Int))) (some (.int .i64 (m : Int))) none).run Try.prog w = .ok (.slice (some ⟨g, k * 3, none⟩) (m - k) (c - k)) w := by
  intro w
  rw [run_slice_lh (t := 50) w _ n c elem50 .i64 .i64 (k : Int) (m : Int) (by omega) (by omega) (by omega), size53]
  have h : ¬ c = k := by omega
  simp [Result.andThen, sliced, h, add_lit]
theorem p_three (A : Option Addr) (n c i j m : Nat) (h1 : i ≤ j) (h2 : j ≤ m) (h3 : m ≤ c) : ∃ V, ∀ w, (Instr.slice 50 (.slice A n c) (some (.int .i64 (i : Int))) (some (.int .i64 (j : Int))) (some (.int .i64 (m : Int)))).run Try.prog w = .ok V w := by
  refine ⟨sliced A i j m 3, fun w => ?_⟩
  rw [run_slice_lhm (t := 50) w A n c elem50 .i64 .i64 .i64 (i : Int) (j : Int) (m : Int) (by omega) (by omega) (by omega) (by omega), size53]
  simp [Result.andThen]
theorem zero_one (k : Nat) : ∀ v ∈ (Builtin.zeroCells (Value.agg #[.bool false, .int .i64 0, .int .i64 0]).cells k).toList, v.oneCell' = true := by
  intro v hv
  simp only [Builtin.zeroCells, Value.cells, Array.toList_map, List.mem_map] at hv
  obtain ⟨i, _, rfl⟩ := hv
  have h3 : i % 3 = 0 ∨ i % 3 = 1 ∨ i % 3 = 2 := by omega
  rcases h3 with h | h | h <;> simp [h] <;> rfl
/-- A cell of a row that is known whole. -/
theorem row_cell {w : World} {g : Nat} {cur : List Value} {e : TypeId} (hg : w.heap[g]? = some (.cells cur.toArray e (0, 0))) (o : Nat) : w.cell? ⟨g, o, none⟩ = cur[o]? := by
  rw [cell_of_row w g o _ _ _ hg]; simp
theorem take_pcs_at {cur : List Value} {n : Nat} {L : List Pc} (h : cur.take (n * 3) = pcs L) (k j : Nat) (v : Value) (hv : (pcs (L.drop k))[j]? = some v) : cur[k * 3 + j]? = some v := by
  rw [← pcs_drop, List.getElem?_drop, ← h, List.getElem?_take] at hv
  split at hv
  · exact hv
  · cases hv

theorem splice_take {α : Type} (L : List α) (o : Nat) (cs : List α) (h : o ≤ L.length) : (splice L o cs).take o = L.take o := by
  unfold splice
  rw [List.take_append_of_le_length (by simp; omega), List.take_take, Nat.min_self]
theorem splice_take2 {α : Type} (L : List α) (o : Nat) (cs : List α) (h : o + cs.length ≤ L.length) : (splice L o cs).take (o + cs.length) = L.take o ++ cs := by
  unfold splice
  have e : (L.take o).length = o := by rw [List.length_take]; omega
  rw [← List.append_assoc, List.take_append_of_le_length (by rw [List.length_append, e]; exact Nat.le_refl _)]
  exact List.take_of_length_le (by rw [List.length_append, e]; exact Nat.le_refl _)
set_option maxHeartbeats 2000000 in
theorem delete_any (W : World) (base : Nat) (A : Option Addr) (n c i j : Nat) (L : List Pc) (h : W.ownsRow base 53 3 (.slice A n c) n (pcs L)) (hij : i ≤ j) (hj : j ≤ n) :
    Calls Try.prog 36 #[.slice A n c, .int .i64 i, .int .i64 j] W fun e w' => e = .returned (.slice A (n - (j - i)) c) ∧ w'.ownsRow base 53 3 (.slice A (n - (j - i)) c) (n - (j - i)) (pcs (L.take i ++ L.drop j)) ∧ Chg (blk A) W w' := by
  obtain ⟨i0, hi0, hz0, hz1, hz2⟩ := info_parts info53
  have hL : L.length = n := by have h1 := h.1; rw [pcs_len] at h1; omega
  have hcap := own_cap h
  obtain ⟨V, hV⟩ := p_three A n c i j n hij hj hcap.2.1
  have hcm := hcap.2.2
  simp only [maxLen] at hcm
  by_cases he : i = j
  · subst he
    have hs : (i : Int) == (i : Int) := by simp
    rw [Nat.sub_self, Nat.sub_zero, List.take_append_drop]
    have H := Lib.hid h
    clear h
    go_enter Try.func36, Try.ntmps36
    go_wp2
    go_ret
    exact ⟨rfl, H.out, Chg.refl _ _⟩
  · rcases own_row h with ⟨_, h0, _⟩ | ⟨g, cur, rfl, hb, hg, hl, hnc, hm, ht⟩
    · omega
    · obtain ⟨a2, hs2, ha2⟩ := p_from g n c j hj
      have hs1 := p_to (some ⟨g, 0, none⟩) n c i (by omega)
      have hs3 := p_mid g (i + (n - j)) c (i + (n - j)) n (by omega) hnc (by omega)
      have hs3' : ∀ w, (Instr.slice 50 (.slice (some ⟨g, 0, none⟩) (i + (n - j)) c) (some (.int .i64 ((i : Int) + ((n - j : Nat) : Int)))) (some (.int .i64 (n : Int))) none).run Try.prog w = .ok (.slice (some ⟨g, (i + (n - j)) * 3, none⟩) (n - (i + (n - j))) (c - (i + (n - j)))) w := fun w => by
        have h := hs3 w
        rwa [show ((i + (n - j) : Nat) : Int) = (i : Int) + ((n - j : Nat) : Int) from by omega] at h
      have hij' : ((i : Int) == (j : Int)) = false := by simp; omega
      have hnl : (pcs (L.drop j)).length = (n - j) * 3 := by rw [pcs_len, List.length_drop, hL]
      have hrun1 := run_append_room_row (P := Try.prog) (w := W.drew) 50 50 53 i0 3 Try.underlying50 hi0 hz1 g i c a2 (n - j) (c - j) (pcs (L.drop j)) cur 53 hg hnl (fun q v hv => by
        have hlt := (List.getElem?_eq_some_iff.1 hv).1
        have ha := ha2.out (by rw [hnl] at hlt; omega)
        rw [ha, show (⟨g, j * 3, none⟩ : Addr).add q = ⟨g, j * 3 + q, none⟩ from by unfold Addr.add; split <;> simp_all]
        exact (row_cell hg _).trans (take_pcs_at ht j q v hv)) (pcs_one _) (by omega) hl
      have hg1 := setRow_heap W.drew g cur.toArray (splice cur (i * 3) (pcs (L.drop j))).toArray 53 (0, 0) hg
      have hfit1 : i * 3 + (pcs (L.drop j)).length ≤ cur.length := by rw [hnl, hl]; omega
      have hl1 := splice_len cur (i * 3) (pcs (L.drop j)) hfit1
      have hrun2 := run_clear_z (P := Try.prog) (w := W.drew.setRow g (splice cur (i * 3) (pcs (L.drop j))).toArray) 50 53 0 i0 _ Try.underlying50 hi0 hz0 g ((i + (n - j)) * 3) (n - (i + (n - j))) (c - (i + (n - j))) _ 53 hg1 (by rw [hl1, hl]; simp [Value.cells]; omega) (zero_one _)
      go_enter Try.func36, Try.ntmps36
      go_wp2
      have i1 : (0 : Int) ≤ (i : Int) := by omega
      have i2 : (i : Int) ≤ (c : Int) := by omega
      have i3 : (0 : Int) ≤ (j : Int) := by omega
      have i4 : (j : Int) ≤ (n : Int) := by omega
      go_region_law (refine step_append_run2 rfl (.tmp 22) (.tmp 25) 50 50 rfl _ _ (by rfl) (by rfl) hrun1 ?_)
      go_wp2_with (with_reducible refine wpList_clear_run rfl (.tmp 31) 50 rfl _ rfl hrun2 ?_)
      have e1 : n - (j - i) = i + (n - j) := by omega
      rw [e1]
      go_ret
      have hg2 := setRow_heap (W.drew.setRow g (splice cur (i * 3) (pcs (L.drop j))).toArray) g _ (splice (splice cur (i * 3) (pcs (L.drop j))) ((i + (n - j)) * 3) (Builtin.zeroCells (Value.agg #[.bool false, .int .i64 0, .int .i64 0]).cells (n - (i + (n - j)))).toList).toArray 53 (0, 0) hg1
      refine ⟨rfl, own_mk hb hg2 ?_ (by omega) hm ?_, ((Chg.refl _ _).drew.setRow (.inl (by simp [blk])) _).setRow (.inl (by simp [blk])) _⟩
      · rw [splice_len, hl1, hl]
        rw [hl1, hl, Array.length_toList, size_zeroCells]
        simp only [Value.cells, List.size_toArray, List.length_cons, List.length_nil]
        omega
      · have e2 : (i + (n - j)) * 3 = i * 3 + (pcs (L.drop j)).length := by rw [hnl]; omega
        rw [splice_take _ _ _ (by rw [hl1, hl]; omega), e2, splice_take2 _ _ _ hfit1, pcs_append, ← pcs_take, ← ht, List.take_take, Nat.min_eq_left (by omega)]
end Go.Proofs.Ytpfceochplghlaa
