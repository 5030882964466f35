/- The walk of samePieces. -/
import Derived.Test.YtpfceochplghlaaRa
import Derived.Test.YtpfceochplghlaaFa
namespace Go.Proofs.Ytpfceochplghlaa
open Go.RowKit
attribute [local go_sem ↓] Go.wp_at_zero Go.wp_at_succ

set_option maxHeartbeats 1000000 in
theorem samep_any (W : World) (b1 b2 : Nat) (A B : Option Addr) (n c m d : Nat) (L : List Pc) (hx : W.ownsRow b1 53 3 (.slice A n c) n (pcs L)) (hy : W.ownsRow b2 53 3 (.slice B m d) m (pcs L)) (hn : n ≤ 1000) :
    Calls Try.prog 44 #[.slice A n c, .slice B m d] W fun e w' => e = .returned (.bool true) ∧ ∃ k, w' = W.drewN k := by
  have hnm : n = m := by have h1 := hx.1; have h2 := hy.1; rw [pcs_len] at h1 h2; omega
  subst hnm
  have HX := Lib.hid (own_lower hx (Nat.zero_le _))
  have HY := Lib.hid (own_lower hy (Nat.zero_le _))
  clear hx hy
  go_enter Try.func44, Try.ntmps44
  go_wp2
  go_loopw [13] (fun i wr => ∃ (k q : Nat), k ≤ n ∧ i = .int .i64 k ∧ wr = W.drewN q) (fun i _ => n - (intOf i).toNat)
  case atStart => exact ⟨0, 0, Nat.zero_le _, rfl, rfl⟩
  case round =>
    obtain ⟨k, q, hk, rfl, rfl⟩ := hrel
    by_cases hlt : k < n
    · obtain ⟨g, p, rfl, hg, hpm, HP, y0, y1, y2⟩ := prow_at HX.out hlt
      obtain ⟨g2, p2, rfl, hg2, hpm2, HP2, u0, u1, u2⟩ := prow_at HY.out hlt
      have hpp : p2 = p := by rw [← HP.out, ← HP2.out]
      subst hpp
      have hJ1 : (0 : Int) ≤ (k : Int) ∧ (k : Int) < (n : Int) := by omega
      obtain ⟨hJ1a, hJ1b⟩ := hJ1
      clear hpm hpm2
      go_wp2
      go_quiet (fail)
      go_wp2
      go_roundw
      case rel => exact ⟨k + 1, _, by omega, by go_num, rfl⟩
      case measure => simp [intOf]; omega
    · go_wp2
      go_ret
      exact ⟨rfl, _, rfl⟩
end Go.Proofs.Ytpfceochplghlaa
