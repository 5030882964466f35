/- Slices of slices, Splice. -/
import Derived.Test.YtpfceochplghlaaC
import Derived.Test.YtpfceochplghlaaHold
import Derived.Deep.RegionHeld3
namespace Go.Proofs.Ytpfceochplghlaa
open Go.RowKit

theorem elem23 : Try.prog.underlying 23 = some (.slice (Try.prog.elem 23)) := by kernel_rfl
theorem size21 (w : World) : (sizeOf (Try.prog.elem 23)).run Try.prog w = .ok 1 w := by kernel_rfl

theorem slice_from (A : Option Addr) (n c k : Nat) (hk : k ≤ n) (hc : n ≤ c) :
    ∃ A2, (∀ w, (Instr.slice 23 (.slice A n c) (some (.int .i64 (k : Int))) none none).run Try.prog w = .ok (.slice A2 (n - k) (c - k)) w) ∧
      ∀ (W : World) (B : Nat) (xs : List Value), Rds W B 1 A n xs → Rds W B 1 A2 (n - k) (xs.drop k) := by
  refine ⟨if c = k then A else A.map (·.add (k * 1)), fun w => ?_, fun W B xs h => ?_⟩
  · rw [run_slice_l (t := 23) w A n c elem23 .i64 (k : Int) (by omega) (by omega), size21]
    simp [Result.andThen, sliced]
  · have h1 := h.cut (k := k) (m := n) hk (Nat.le_refl _) hc
    rw [Nat.mul_one, Nat.mul_one, List.take_of_length_le (by have := h.1; simp; omega)] at h1
    simpa using h1
theorem slice_to (A : Option Addr) (n c k : Nat) (hk : k ≤ c) : ∀ w, (Instr.slice 23 (.slice A n c) none (some (.int .i64 (k : Int))) none).run Try.prog w = .ok (.slice A k c) w := by
  intro w
  rw [run_slice_h (t := 23) w A n c elem23 .i64 (k : Int) (by omega) (by omega), size21]
  have e : (A.map fun x => x.add 0) = A := by cases A <;> rfl
  simp [Result.andThen, sliced, e]
theorem slice_mid (A : Option Addr) (n c k m : Nat) (hk : k ≤ m) (hm : m ≤ n) (hc : n ≤ c) :
    ∃ A2, (∀ w, (Instr.slice 23 (.slice A n c) (some (.int .i64 (k : Int))) (some (.int .i64 (m : Int))) none).run Try.prog w = .ok (.slice A2 (m - k) (c - k)) w) ∧
      ∀ (W : World) (B : Nat) (xs : List Value), Rds W B 1 A n xs → Rds W B 1 A2 (m - k) ((xs.drop k).take (m - k)) := by
  refine ⟨if c = k then A else A.map (·.add (k * 1)), fun w => ?_, fun W B xs h => ?_⟩
  · rw [run_slice_lh (t := 23) w A n c elem23 .i64 .i64 (k : Int) (m : Int) (by omega) (by omega) (by omega), size21]
    simp [Result.andThen, sliced]
  · have h1 := h.cut (k := k) (m := m) hk hm hc
    rw [Nat.mul_one, Nat.mul_one] at h1
    simpa using h1

set_option maxHeartbeats 1000000 in
theorem splice_any (A B : Option Addr) (n c m d a k : Nat) (xs ys : List Int) (w : World) (hx : Rds w w.heap.size 1 A n (xs.map (Value.int .i32))) (hy : Rds w w.heap.size 1 B m (ys.map (Value.int .i32)))
    (hc : n ≤ c) (ha : a + k ≤ n) (hn : (n + m) * 4 ≤ 140737488355328) :
    Calls Try.prog 24 #[.slice A n c, .int .i64 a, .int .i64 k, .slice B m d] w fun e w' => ∃ v, e = .returned v ∧ w'.ownsRow w.heap.size 21 1 v (n - k + m) ((xs.take a ++ ys ++ xs.drop (a + k)).map (Value.int .i32)) ∧ Below w.heap.size w w' := by
  obtain ⟨i0, hi0, hz0, hz1, hz2⟩ := info_parts info21
  obtain ⟨A2, hs2, hr2⟩ := slice_from A n c (a + k) ha hc
  have hs2' : ∀ w, (Instr.slice 23 (.slice A n c) (some (.int .i64 ((a : Int) + (k : Int)))) none none).run Try.prog w = .ok (.slice A2 (n - (a + k)) (c - (a + k))) w := fun w => by
    have h := hs2 w
    rwa [show (((a + k : Nat) : Int)) = (a : Int) + k from by omega] at h
  clear hs2
  have hf := hx.front (m := a) (by omega)
  rw [Nat.mul_one, ← List.map_take] at hf
  have hf2 := hr2 _ _ _ hx
  rw [← List.map_drop] at hf2
  have lx := hx.int_len
  have hs1 := slice_to A n c a (by omega)
  have ham : (a + m) * 4 ≤ 140737488355328 := by omega
  have h63 : a + m + (n - (a + k)) ≤ maxLen := by simp only [maxLen]; omega
  have hby : (a + m + (n - (a + k))) * 4 ≤ 140737488355328 := by omega
  have i1 : (0 : Int) ≤ (a : Int) := by omega
  have i2 : (a : Int) ≤ (c : Int) := by omega
  have i3 : (0 : Int) ≤ (a : Int) + (k : Int) := by omega
  have i4 : (a : Int) + (k : Int) ≤ (n : Int) := by omega
  have hwr : IntKind.i64.wrap ((a : Int) + (k : Int)) = (a : Int) + (k : Int) := IntWalk.i64_in _ (by omega)
  have hx1 : ∀ W, Below w.heap.size w W → Rds W W.heap.size 1 A a ((xs.take a).map (Value.int .i32)) := fun W hb => (hf.below hb).more hb.size
  have hy1 : ∀ W, Below w.heap.size w W → Rds W W.heap.size 1 B m (ys.map (Value.int .i32)) := fun W hb => (hy.below hb).more hb.size
  clear hr2 hx hy hf
  go_enter Try.func24, Try.ntmps24
  go_wp2
  go_region_held3 (fun w' => True) (trivial)
    (first
      | (go_at_call 43; (with_reducible refine (join_any A B a c m d (xs.take a) ys _ (hx1 _ (Below.drew (Below.refl _ _))) (hy1 _ (Below.drew (Below.refl _ _))) ham).mono ?_); rintro e w1 ⟨v1, rfl, hown1, hb1⟩; have hbb : Below w.heap.size w w1 := (Below.drew (Below.refl _ _)).trans hb1)
      | (refine step_append_rds (by rfl) (.tmp 13) (.tmp 18) 23 (by rfl) w.heap.size 21 i0 _ 1 4 Try.underlying23 hi0 hz0 hz1 hz2 rfl (by decide) v1 (a + m) _ (by rfl) hown1 w.heap.size A2 (n - (a + k)) (c - (a + k)) _ (by rfl) (hf2.below hbb) (oneCell_ints _) h63 hby hbb.size ?_; intro v2 w2 hown2 hg2 hat2))
  clear hwr
  go_wp2
  go_ret
  have e : a + m + (n - (a + k)) = n - k + m := by omega
  rw [e] at hown2
  refine ⟨v2, rfl, by simpa [List.map_append] using hown2, hbb.grown hg2 hbb.size fun k hk => (hown1.lt k hk).1⟩
end Go.Proofs.Ytpfceochplghlaa
