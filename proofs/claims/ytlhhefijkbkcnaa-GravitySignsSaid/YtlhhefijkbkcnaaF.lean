/- The walk of GravityBack. -/
import Derived.Test.YtlhhefijkbkcnaaE
namespace Go.Proofs.Ytlhhefijkbkcnaa
open Go.RowKit

theorem index_is (k : Int) (n : Nat) (hn : 0 < n) (hn2 : n ≤ 9223372036854775807) (j : Nat) (hj : Hid (idx k n = j)) (w : World) :
    Calls Try.prog 16 #[.int .i64 k, .int .i64 n] w fun e w' => e = .returned (.int .i64 j) ∧ w = w' := by
  have h := hj.out
  subst h
  exact index_any k n hn hn2 w
theorem index_1000 (k : Int) (j : Nat) (hj : Hid (idx k 1000 = j)) (w : World) : Calls Try.prog 16 #[.int .i64 k, .int .i64 1000] w fun e w' => e = .returned (.int .i64 j) ∧ w = w' := index_is k 1000 (by decide) (by decide) j hj w
theorem index_3000 (k : Int) (j : Nat) (hj : Hid (idx k 3000 = j)) (w : World) : Calls Try.prog 16 #[.int .i64 k, .int .i64 3000] w fun e w' => e = .returned (.int .i64 j) ∧ w = w' := index_is k 3000 (by decide) (by decide) j hj w
theorem index_500 (k : Int) (j : Nat) (hj : Hid (idx k 500 = j)) (w : World) : Calls Try.prog 16 #[.int .i64 k, .int .i64 500] w fun e w' => e = .returned (.int .i64 j) ∧ w = w' := index_is k 500 (by decide) (by decide) j hj w
theorem index_6 (k : Int) (j : Nat) (hj : Hid (idx k 6 = j)) (w : World) : Calls Try.prog 16 #[.int .i64 k, .int .i64 6] w fun e w' => e = .returned (.int .i64 j) ∧ w = w' := index_is k 6 (by decide) (by decide) j hj w

set_option maxHeartbeats 1000000 in
theorem back_any (x y : Int) (r b : Bool) (A B : Option Addr) (n c m d : Nat) (w : World) (hn : n ≤ 1048576) (hm : m ≤ 1048576) :
    Calls Try.prog 5 #[.int .i64 x, .int .i64 y, .slice A n c, .slice B m d, .bool r, .bool b] w fun e w' => e = .returned (.bool true) ∧ Below w.heap.size w w' := by
  obtain ⟨a, Ha⟩ : ∃ a, Hid (idx x 1000 = a) := ⟨_, rfl⟩
  obtain ⟨p, Hp⟩ : ∃ p, Hid (idx y 3000 = p) := ⟨_, rfl⟩
  have ha : a < 1000 := by rw [← Ha.out]; exact idx_lt _ _ (by decide)
  have hp : p < 3000 := by rw [← Hp.out]; exact idx_lt _ _ (by decide)
  by_cases h1 : a ≤ p ∧ p ≤ a + n
  · obtain ⟨h1, h2⟩ := h1
    go_enter Try.func5, Try.ntmps5
    go_wp2_with (first
      | (go_at_call 16; (with_reducible refine (index_1000 x a Ha _).mono ?_); rintro e w' ⟨rfl, rfl⟩)
      | (go_at_call 16; (with_reducible refine (index_3000 y p Hp _).mono ?_); rintro e w' ⟨rfl, rfl⟩)
      | (go_at_call 14; (with_reducible refine (known_any _).mono ?_); rintro e w' ⟨rfl, hb⟩))
    go_ret
    exact ⟨rfl, ((Below.refl _ _).alloc (Nat.le_refl _) _).trans (hb.mono (by simp <;> omega))⟩
  · by_cases h2 : p < a
    · have e1 : plc p a n m r = p := by unfold plc; rw [if_neg (by omega), if_pos (by omega)]
      have e2 : plc p a m n b = p := by unfold plc; rw [if_neg (by omega), if_pos (by omega)]
      have E1 := Lib.hid e1
      have E2 := Lib.hid e2
      clear e1 e2 h1
      go_enter Try.func5, Try.ntmps5
      go_wp2_with (first
        | (go_at_call 16; (with_reducible refine (index_1000 x a Ha _).mono ?_); rintro e w' ⟨rfl, rfl⟩)
        | (go_at_call 16; (with_reducible refine (index_3000 y p Hp _).mono ?_); rintro e w' ⟨rfl, rfl⟩)
        | (go_at_call 9; (with_reducible refine (place_is p a n m _ _ _ _ r p _ (by omega) (by omega) E1.out).mono ?_); rintro e w' ⟨rfl, k1, rfl⟩)
        | (go_at_call 9; (with_reducible refine (place_is p a m n _ _ _ _ b p _ (by omega) (by omega) E2.out).mono ?_); rintro e w' ⟨rfl, k2, rfl⟩)
        | (go_at_call 14; (with_reducible refine (known_any _).mono ?_); rintro e w' ⟨rfl, hb⟩))
      go_ret
      refine ⟨rfl, Below.trans ?_ (hb.mono (by simp <;> omega))⟩
      repeat (first | exact Below.refl _ _ | refine below_drewN ?_ _ | refine Below.drew ?_ | refine Below.alloc ?_ (by simp <;> omega) _)
    · have h3 : a + n < p := by omega
      have e1 : plc p a n m r = p + m - n := by unfold plc; rw [if_neg (by omega), if_neg (by omega), if_pos (by omega)]
      have e2 : plc (p + m - n) a m n b = p := by unfold plc; rw [if_neg (by omega), if_neg (by omega), if_pos (by omega)]; omega
      have E1 := Lib.hid e1
      have E2 := Lib.hid e2
      clear e1 e2 h1
      go_enter Try.func5, Try.ntmps5
      go_wp2_with (first
        | (go_at_call 16; (with_reducible refine (index_1000 x a Ha _).mono ?_); rintro e w' ⟨rfl, rfl⟩)
        | (go_at_call 16; (with_reducible refine (index_3000 y p Hp _).mono ?_); rintro e w' ⟨rfl, rfl⟩)
        | (go_at_call 9; (with_reducible refine (place_is p a n m _ _ _ _ r (p + m - n) _ (by omega) (by omega) E1.out).mono ?_); rintro e w' ⟨rfl, k1, rfl⟩)
        | (go_at_call 9; (with_reducible refine (place_is (p + m - n) a m n _ _ _ _ b p _ (by omega) (by omega) E2.out).mono ?_); rintro e w' ⟨rfl, k2, rfl⟩)
        | (go_at_call 14; (with_reducible refine (known_any _).mono ?_); rintro e w' ⟨rfl, hb⟩))
      go_ret
      refine ⟨by simp; omega, Below.trans ?_ (hb.mono (by simp <;> omega))⟩
      repeat (first | exact Below.refl _ _ | refine below_drewN ?_ _ | refine Below.drew ?_ | refine Below.alloc ?_ (by simp <;> omega) _)
end Go.Proofs.Ytlhhefijkbkcnaa
