/- The walks of Lend, Same, Kept, Join, Cut, Index. -/
import Derived.Test.YtpfceochplghlaaRows
import Derived.Test.YtpfceochplghlaaMem
import Derived.WalkKit
import Derived.WalkSpells
import Derived.WalkLawsBesides
import Derived.Deep.QuietTactic
import Derived.BigQuiet
import Derived.Lib.Hide
namespace Go.Proofs.Ytpfceochplghlaa
open Go.RowKit

theorem info21 : (Try.prog.info? 21).map (fun i => (i.zero, i.size, i.bytes)) = some (some (.int .i32 0), 1, 4) := by kernel_rfl

set_option maxHeartbeats 400000 in
theorem lend_any (A : Option Addr) (n c : Nat) (zs : List Int) (w : World) (hr : Rds w w.heap.size 1 A n (zs.map (Value.int .i32))) (hn : n * 4 ≤ 140737488351232) :
    Calls Try.prog 28 #[.slice A n c] w fun e w' => ∃ g cap, e = .returned (.slice (some ⟨g, 0, none⟩) n cap) ∧
      w'.ownsRow w.heap.size 21 1 (.slice (some ⟨g, 0, none⟩) (n + 2) cap) (n + 2) ((zs ++ [-77, -78]).map (Value.int .i32)) ∧ Below w.heap.size w w' := by
  obtain ⟨i0, hi0, hz0, hz1, hz2⟩ := info_parts info21
  go_enter Try.func28, Try.ntmps28
  go_wp2_with (at_builtin; refine append_rds rfl (.const (.slice none 0 0)) (.tmp 4) 23 rfl w.heap.size 21 i0 _ 1 4 Try.underlying23 hi0 hz0 hz1 hz2 rfl (by omega) (.slice none 0 0) 0 [] rfl (World.ownsRow_nil _ _ _ _) w.heap.size A n c _ rfl hr (oneCell_ints _) (by simp only [maxLen]; omega) (by omega) (Nat.le_refl _) ?_)
  intro v1 w1 hown1 hg1 hat1
  have hb1 : Below w.heap.size w w1 := (Below.refl _ _).grown hg1 (Nat.le_refl _) (by simp [Value.ownBlock])
  try simp only [Nat.zero_add, List.nil_append] at hown1
  have hs1 := hb1.size
  have hob1 : ∀ k, v1.ownBlock = some k → w.heap.size ≤ k := fun k hk => (hown1.lt k hk).1
  clear hg1 hat1
  go_wp2_with (at_builtin; refine wpList_append_lies _ rfl (.tmp 5) (.tmp 6) 23 rfl w.heap.size 21 i0 _ 1 4 Try.underlying23 hi0 hz0 hz1 hz2 rfl (by omega) v1 n _ rfl (hown1.alloc _) ⟨w1.heap.size, 0, none⟩ 2 2 [.int .i32 (-77), .int .i32 (-78)] rfl rfl (cell_two_new _ _ _ _) (oneCell_ints [-77, -78]) (by omega) (by simp only [maxLen]; omega) (by omega) (by simp; omega) (w1.heap.size + 1) (by simp) ?_)
  intro g cap w2 hown2 hg2 hat2 hlt2
  have hc2 := (own_cap hown2).2.1
  have hb2 : Below w.heap.size w w2 := (hb1.alloc hb1.size _).grown hg2 (by simp; omega) hob1
  go_wp2
  go_ret
  exact ⟨g, cap, rfl, by simpa [List.map_append] using hown2, hb2⟩

set_option maxHeartbeats 400000 in
theorem join_any (A B : Option Addr) (n c m d : Nat) (xs ys : List Int) (w : World) (hx : Rds w w.heap.size 1 A n (xs.map (Value.int .i32))) (hy : Rds w w.heap.size 1 B m (ys.map (Value.int .i32))) (hn : (n + m) * 4 ≤ 140737488355328) :
    Calls Try.prog 43 #[.slice A n c, .slice B m d] w fun e w' => ∃ v, e = .returned v ∧ w'.ownsRow w.heap.size 21 1 v (n + m) ((xs ++ ys).map (Value.int .i32)) ∧ Below w.heap.size w w' := by
  obtain ⟨i0, hi0, hz0, hz1, hz2⟩ := info_parts info21
  go_enter Try.func43, Try.ntmps43
  go_wp2_with (at_builtin; refine append_rds rfl (.const (.slice none 0 0)) (.tmp 5) 23 rfl w.heap.size 21 i0 _ 1 4 Try.underlying23 hi0 hz0 hz1 hz2 rfl (by omega) (.slice none 0 0) 0 [] rfl (World.ownsRow_nil _ _ _ _) w.heap.size A n c _ rfl hx (oneCell_ints _) (by simp only [maxLen]; omega) (by omega) (Nat.le_refl _) ?_)
  intro v1 w1 hown1 hg1 hat1
  have hb1 : Below w.heap.size w w1 := (Below.refl _ _).grown hg1 (Nat.le_refl _) (by simp [Value.ownBlock])
  try simp only [Nat.zero_add, List.nil_append] at hown1
  have hs1 := hb1.size
  have hob1 : ∀ k, v1.ownBlock = some k → w.heap.size ≤ k := fun k hk => (hown1.lt k hk).1
  have hy1 := hy.below hb1
  clear hg1 hat1
  go_wp2_with (at_builtin; refine append_rds rfl (.tmp 6) (.tmp 7) 23 rfl w.heap.size 21 i0 _ 1 4 Try.underlying23 hi0 hz0 hz1 hz2 rfl (by omega) v1 n _ rfl hown1 w.heap.size B m d _ rfl hy1 (oneCell_ints _) (by simp only [maxLen]; omega) (by omega) hs1 ?_)
  intro v2 w2 hown2 hg2 hat2
  have hb2 : Below w.heap.size w w2 := hb1.grown hg2 hs1 hob1
  go_wp2
  go_ret
  exact ⟨v2, rfl, by simpa [List.map_append] using hown2, hb2⟩

/-- Are the first k elements alike? -/
theorem take_succ_eq (xs ys : List Int) (k : Nat) (hx : k < xs.length) (hy : k < ys.length) (h : xs.take k = ys.take k) (e : xs.getD k 0 = ys.getD k 0) : xs.take (k + 1) = ys.take (k + 1) := by
  rw [List.take_succ_eq_append_getElem hx, List.take_succ_eq_append_getElem hy, h]
  simp [List.getD, hx, hy] at e
  rw [e]

set_option maxHeartbeats 400000 in
theorem same_any (A B : Option Addr) (n c m d : Nat) (xs ys : List Int) (K : Nat) (w : World) (hx : Rds w K 1 A n (xs.map (Value.int .i32))) (hy : Rds w K 1 B m (ys.map (Value.int .i32))) (hn : n ≤ 140737488355328) :
    Calls Try.prog 25 #[.slice A n c, .slice B m d] w fun e w' => e = .returned (.bool (decide (xs = ys))) ∧ ∃ k, w' = w.drewN k := by
  have lx := hx.int_len
  have ly := hy.int_len
  by_cases hnm : n = m
  · subst hnm
    go_enter Try.func25, Try.ntmps25
    go_wp2
    go_loopw [5] (fun i wr => ∃ k : Nat, k ≤ n ∧ i = .int .i64 k ∧ xs.take k = ys.take k ∧ ∃ q, wr = w.drewN q) (fun i _ => n - (intOf i).toNat)
    case atStart => exact ⟨0, Nat.zero_le _, rfl, rfl, 0, rfl⟩
    case round =>
      obtain ⟨k, hk, rfl, hpre, q, rfl⟩ := hrel
      have Hpre := Lib.hid hpre
      clear hpre
      by_cases hlt : k < n
      · obtain ⟨ad, x, rfl, _, hcx, Hx⟩ := hx.int_at hlt
        obtain ⟨ad', y, rfl, _, hcy, Hy⟩ := hy.int_at hlt
        by_cases he : x = y
        · subst he
          have Hnext := Lib.hid (take_succ_eq xs ys k (by omega) (by omega) Hpre.out (Hx.out.symm.trans Hy.out))
          go_wp2
          go_quiet (fail)
          go_wp2
          go_roundw
          case rel => exact ⟨k + 1, by omega, by go_num, Hnext.out, _, rfl⟩
          case measure => simp [intOf]; omega
        · have hb : (x != y) = true := by simpa using he
          have hne : xs ≠ ys := fun e => he (by rw [Hx.out, Hy.out, e])
          go_wp2
          go_quiet (fail)
          go_wp2
          go_ret
          exact ⟨by simp [hne], _, World.drewN_drewN _ _ _⟩
      · go_wp2
        go_ret
        have hke : k = n := by omega
        subst hke
        have e := Hpre.out
        rw [List.take_of_length_le (by omega), List.take_of_length_le (by omega)] at e
        exact ⟨by simp [e], _, rfl⟩
  · go_enter Try.func25, Try.ntmps25
    go_wp2
    go_ret
    exact ⟨by simp; intro e; exact hnm (by rw [← lx, ← ly, e]), 0, rfl⟩

theorem list_two (zs : List Int) (j : Nat) (hj : j = zs.length) : ((zs ++ [-77, -78]).map (Value.int .i32))[j]? = some (.int .i32 (-77)) ∧ ((zs ++ [-77, -78]).map (Value.int .i32))[j + 1]? = some (.int .i32 (-78)) := by
  subst hj
  simp

set_option maxHeartbeats 400000 in
/-- What was lent is as it was. -/
theorem kept_any (g n cap c K base : Nat) (A : Option Addr) (zs : List Int) (w : World)
    (hown : w.ownsRow base 21 1 (.slice (some ⟨g, 0, none⟩) (n + 2) cap) (n + 2) ((zs ++ [-77, -78]).map (Value.int .i32))) (hy : Rds w K 1 A n (zs.map (Value.int .i32))) (hn : n ≤ 70368744177664) (hK : w.heap.size ≤ K) :
    Calls Try.prog 29 #[.slice (some ⟨g, 0, none⟩) n cap, .slice A n c] w fun e w' => e = .returned (.bool true) ∧ ∃ k, w' = w.drewN k := by
  have hc := (own_cap hown).2.1
  have ly := hy.int_len
  have hz : Rds w K 1 (some ⟨g, 0, none⟩) n (zs.map (Value.int .i32)) := by
    have h := ((Rds.of_own hown).more hK).front (m := n) (by omega)
    rw [Nat.mul_one, List.map_append, List.take_append_of_le_length (by simp [ly]), List.take_of_length_le (by simp [ly])] at h
    exact h
  obtain ⟨e1, e2⟩ := list_two zs n ly.symm
  have c1 : w.cell? ⟨g, n, none⟩ = some (.int .i32 (-77)) := by rw [hown.cellAt n (by omega), e1]
  have c2 : w.cell? ⟨g, n + 1, none⟩ = some (.int .i32 (-78)) := by rw [hown.cellAt (n + 1) (by omega), e2]
  clear e1 e2
  go_enter Try.func29, Try.ntmps29
  go_wp2_with (go_at_call 25; refine (same_any (some ⟨g, 0, none⟩) A n cap n c zs zs K _ hz hy (by omega)).mono ?_; rintro e w' ⟨rfl, k, rfl⟩)
  go_ret
  exact ⟨by simp, _, rfl⟩

theorem cut_any (A : Option Addr) (n c m : Nat) (hc : n ≤ c) (w : World) :
    Calls Try.prog 17 #[.slice A n c, .int .i64 m] w fun e w' => e = .returned (.slice A (min n m) c) ∧ w = w' := by
  by_cases h : m < n
  · have e : min n m = m := by omega
    rw [e]; clear e
    go_enter Try.func17, Try.ntmps17
    go_wp2
    go_ret
    exact ⟨rfl, rfl⟩
  · have e : min n m = n := by omega
    rw [e]; clear e
    go_enter Try.func17, Try.ntmps17
    go_wp2
    go_ret
    exact ⟨rfl, rfl⟩

/-- The masked number. -/
theorem mask_range (k : Int) : 0 ≤ bits BinOp.and IntKind.i64 k 4294967295 ∧ bits BinOp.and IntKind.i64 k 4294967295 ≤ 4294967295 := by
  have h : (BitVec.ofInt 64 k &&& BitVec.ofInt 64 4294967295).toNat ≤ 4294967295 := by
    rw [BitVec.toNat_and]; exact Nat.le_trans Nat.and_le_right (by decide)
  have e : bits BinOp.and IntKind.i64 k 4294967295 = IntKind.i64.wrap ((BitVec.ofInt 64 k &&& BitVec.ofInt 64 4294967295).toNat : Int) := rfl
  rw [e, IntKind.wrap_i64]
  omega
/-- Index: the masked number's rest. -/
def idx (k : Int) (n : Nat) : Nat := ((bits BinOp.and IntKind.i64 k 4294967295).tmod n).toNat
theorem idx_cast (k : Int) (n : Nat) : ((idx k n : Nat) : Int) = (bits BinOp.and IntKind.i64 k 4294967295).tmod n := by
  have h := mask_range k
  unfold idx
  rw [Int.tmod_eq_emod_of_nonneg h.1]
  have : 0 ≤ bits BinOp.and IntKind.i64 k 4294967295 % (n : Int) := by
    by_cases hn : n = 0
    · subst hn; simpa using h.1
    · exact Int.emod_nonneg _ (by omega)
  omega
theorem idx_lt (k : Int) (n : Nat) (hn : 0 < n) : idx k n < n := by
  have h := mask_range k
  have e := idx_cast k n
  rw [Int.tmod_eq_emod_of_nonneg h.1] at e
  have := Int.emod_lt_of_pos (bits BinOp.and IntKind.i64 k 4294967295) (show (0 : Int) < n by omega)
  omega

theorem index_any (k : Int) (n : Nat) (hn : 0 < n) (hn2 : n ≤ 9223372036854775807) (w : World) :
    Calls Try.prog 11 #[.int .i64 k, .int .i64 n] w fun e w' => e = .returned (.int .i64 (idx k n)) ∧ w = w' := by
  go_enter Try.func11, Try.ntmps11
  go_wp2
  go_ret
  exact ⟨by rw [idx_cast]; rfl, rfl⟩
end Go.Proofs.Ytpfceochplghlaa
