/- The walks of Pieces, of, Copy of nothing. -/
import Derived.Test.YtpfceochplghlaaR
namespace Go.Proofs.Ytpfceochplghlaa
open Go.RowKit
attribute [local go_sem ↓] Go.wp_at_zero Go.wp_at_succ

theorem pieces_any (W : World) (t : Nat) (F : List Nat) (T : Tb) (h : TabIn W t F T) : Calls Try.prog 27 #[.pointer (some ⟨t, 0, none⟩)] W fun e w' => ∃ v, e = .returned v ∧ w'.ownsRow W.heap.size 53 3 v T.ps.length (pcs T.ps) ∧ Below W.heap.size W w' := by
  have hok := h.ok
  have hn := count_le hok.pos
  have hl := hok.len
  obtain ⟨A0, n0, c0, A1, n1, c1, A2, n2, c2, hat, rfl, _⟩ := h
  obtain ⟨z0, z1, z2, z3⟩ := hat.cells
  have hn2 := hat.lens.2.2
  rw [hn2] at hn ⊢
  have hr := Lib.hid (Rds.of_own hat.r2)
  have hb : n2 ≤ 1000000 := by omega
  clear z0 z1 z3 hat hn2 hok
  go_enter Try.func27, Try.ntmps27
  go_wp2_with (go_at_call 46; (with_reducible refine (clone_p A2 n2 c2 T.ps W hr.out hb).mono ?_); rintro e w1 ⟨v1, rfl, hown1, hb1⟩)
  go_ret
  exact ⟨v1, rfl, hown1, hb1⟩
theorem copy_none (W : World) : Calls Try.prog 38 #[.pointer none] W fun e w' => e = .returned (.pointer none) ∧ W = w' := by
  go_enter Try.func38, Try.ntmps38
  go_wp2
  go_ret
  exact ⟨rfl, rfl⟩
end Go.Proofs.Ytpfceochplghlaa
