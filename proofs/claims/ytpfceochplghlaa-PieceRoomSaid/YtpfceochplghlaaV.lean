/- Rows of zeros: what PieceRoom makes. -/
import Derived.Test.YtpfceochplghlaaU
import Derived.Laws.MakeOwn
namespace Go.Proofs.Ytpfceochplghlaa
open Go.RowKit

def zerosL (n : Nat) : List Int := List.replicate n 0
theorem zerosL_len (n : Nat) : (zerosL n).length = n := by simp [zerosL]
theorem may_zeros (n : Nat) : mayB (zerosL n) = true := by
  simp only [mayB, List.all_eq_true]
  intro x hx
  obtain ⟨_, rfl⟩ := List.mem_replicate.1 hx
  rfl
theorem made_zero (n : Nat) : madeCells #[.int .i32 0] n = ((zerosL n).map (Value.int .i32)).toArray := by
  apply Array.ext
  · simp [madeCells, zerosL]
  · intro i h1 h2
    simp [madeCells, zerosL, Nat.mod_one]
theorem run_zeros (n : Nat) (hn : n ≤ 100000) : ∀ w : World, (Instr.makeSlice 23 (.int .i64 (n : Int)) (.int .i64 (n : Int))).run Try.prog w = .ok (.slice (some ⟨w.heap.size, 0, none⟩) n n) (w.alloc (.cells ((zerosL n).map (Value.int .i32)).toArray 21 (0, 0))) := by
  intro w
  obtain ⟨i0, hi0, hz0, hz1, hz2⟩ := info_parts info21
  have h := run_make (P := Try.prog) w 23 21 i0 _ Try.underlying23 hi0 hz0 .i64 .i64 n n (by omega) (Int.le_refl _) (by rw [hz2]; omega) (by omega)
  rw [hz1] at h
  simp only [Int.toNat_natCast, Nat.mul_one] at h
  rw [← made_zero]
  exact h
theorem rds_zeros {w : World} {q n : Nat} (h : w.heap[q]? = some (.cells ((zerosL n).map (Value.int .i32)).toArray 21 (0, 0))) (hn : n ≤ 20000) : Rds w w.heap.size 1 (some ⟨q, 0, none⟩) n ((zerosL n).map (Value.int .i32)) := by
  have e : ((zerosL n).map (Value.int .i32)).length = n := by simp [zerosL]
  have h := rds_lit h (by rw [e]; exact hn)
  rwa [e] at h
end Go.Proofs.Ytpfceochplghlaa
