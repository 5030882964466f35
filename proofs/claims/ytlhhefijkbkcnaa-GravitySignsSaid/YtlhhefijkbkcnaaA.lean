/- The walks of Place and Moved: where a place is behind a change. -/
import Derived.Test.YtlhhefijkbkcnaaRows
import Derived.WalkKit
import Derived.WalkSpells
import Derived.WalkLawsBesides
import Derived.Deep.QuietTactic
import Derived.BigQuiet
import Derived.Lib.Hide
namespace Go.Proofs.Ytlhhefijkbkcnaa
open Go.RowKit

theorem ret_int {k : IntKind} {a b : Int} (h : a = b) : Ending.returned (.int k a) = .returned (.int k b) := by rw [h]

theorem far_no (n : Int) (h0 : 0 ≤ n) (h1 : n ≤ 1099511627776) (w : World) :
    Calls Try.prog 18 #[.int .i64 n] w fun e w' => e = .returned (.bool false) ∧ w = w' := by
  go_enter Try.func18, Try.ntmps18
  go_wp2
  go_ret
  exact ⟨by simp <;> omega, rfl⟩

theorem far_yes (n : Int) (h : n < 0 ∨ 1099511627776 < n) (w : World) :
    Calls Try.prog 18 #[.int .i64 n] w fun e w' => e = .returned (.bool true) ∧ w = w' := by
  rcases h with h | h
  · go_enter Try.func18, Try.ntmps18
    go_wp2
    go_ret
    exact ⟨by simp <;> omega, rfl⟩
  · go_enter Try.func18, Try.ntmps18
    go_wp2
    go_ret
    exact ⟨by simp <;> omega, rfl⟩

theorem farr_no (n : Int) (h0 : 0 ≤ n) (h1 : n ≤ 1099511627776) (w : World) :
    Calls Try.prog 19 #[.int .i64 n] w fun e w' => e = .returned (.bool false) ∧ w = w' := by
  go_enter Try.func19, Try.ntmps19
  go_wp2
  go_ret
  exact ⟨by simp <;> omega, rfl⟩

theorem farr_yes (n : Int) (h : n < 0 ∨ 1099511627776 < n) (w : World) :
    Calls Try.prog 19 #[.int .i64 n] w fun e w' => e = .returned (.bool true) ∧ w = w' := by
  rcases h with h | h
  · go_enter Try.func19, Try.ntmps19
    go_wp2
    go_ret
    exact ⟨by simp <;> omega, rfl⟩
  · go_enter Try.func19, Try.ntmps19
    go_wp2
    go_ret
    exact ⟨by simp <;> omega, rfl⟩

/-- Where a place is behind a change. -/
def plc (p a n m : Int) (r : Bool) : Int :=
  if p < 0 ∨ 1099511627776 < p ∨ a < 0 ∨ 1099511627776 < a then p
  else if p < a ∨ (p = a ∧ 0 < n) then p
  else if a + n < p ∨ (p = a + n ∧ 0 < n) then p + m - n
  else if r then a + m else a

set_option maxHeartbeats 1000000 in
theorem place_any (p a : Int) (n m : Nat) (A B : Option Addr) (c d : Nat) (r : Bool) (w : World) (hn : n ≤ 70368744177664) (hm : m ≤ 70368744177664) :
    Calls Try.prog 9 #[.int .i64 p, .agg #[.int .i64 a, .slice A n c, .slice B m d], .bool r] w fun e w' => e = .returned (.int .i64 (plc p a n m r)) ∧ ∃ k : Nat, w' = (w.alloc (.cells #[.int .i64 a, .slice A n c, .slice B m d] 24)).drewN k := by
  have hcase : (p < 0 ∨ 1099511627776 < p) ∨ (0 ≤ p ∧ p ≤ 1099511627776 ∧ (a < 0 ∨ 1099511627776 < a)) ∨ 
     (0 ≤ p ∧ p ≤ 1099511627776 ∧ 0 ≤ a ∧ a ≤ 1099511627776 ∧ p < a) ∨ (0 ≤ p ∧ p ≤ 1099511627776 ∧ 0 ≤ a ∧ a ≤ 1099511627776 ∧ p = a ∧ 0 < n) ∨ 
     (0 ≤ p ∧ p ≤ 1099511627776 ∧ 0 ≤ a ∧ a ≤ 1099511627776 ∧ p = a ∧ n = 0) ∨ (0 ≤ p ∧ p ≤ 1099511627776 ∧ 0 ≤ a ∧ a ≤ 1099511627776 ∧ a + n < p) ∨
     (0 ≤ p ∧ p ≤ 1099511627776 ∧ 0 ≤ a ∧ a ≤ 1099511627776 ∧ a < p ∧ p = a + n) ∨ (0 ≤ p ∧ p ≤ 1099511627776 ∧ 0 ≤ a ∧ a ≤ 1099511627776 ∧ a < p ∧ p < a + n) := by omega
  rcases hcase with h | ⟨h0, h1, h⟩ | ⟨h0, h1, h2, h3, h4⟩ | ⟨h0, h1, h2, h3, rfl, h5⟩ | ⟨h0, h1, h2, h3, rfl, rfl⟩ | ⟨h0, h1, h2, h3, h4⟩ | ⟨h0, h1, h2, h3, h4, rfl⟩ | ⟨h0, h1, h2, h3, h4, h5⟩
  · go_enter Try.func9, Try.ntmps9
    go_wp2
    go_quiet (fail)
    go_wp2_with (go_at_call 18; refine (far_yes _ h _).mono ?_; rintro e w' ⟨rfl, rfl⟩)
    go_ret
    exact ⟨ret_int (by unfold plc; rw [if_pos (by omega)]), _, rfl⟩
  · go_enter Try.func9, Try.ntmps9
    go_wp2
    go_quiet (fail)
    go_wp2_with (first | (go_at_call 18; refine (far_no p h0 h1 _).mono ?_; rintro e w' ⟨rfl, rfl⟩) | (go_at_call 18; refine (far_yes a h _).mono ?_; rintro e w' ⟨rfl, rfl⟩))
    go_ret
    exact ⟨ret_int (by unfold plc; rw [if_pos (by omega)]), _, rfl⟩
  all_goals
    go_enter Try.func9, Try.ntmps9
    go_wp2
    go_quiet (fail)
    go_wp2_with (go_at_call 18; refine (far_no _ (by omega) (by omega) _).mono ?_; rintro e w' ⟨rfl, rfl⟩)
    all_goals
      go_ret
      refine ⟨ret_int ?_, _, rfl⟩
      unfold plc; (repeat' split) <;> first | omega | simp_all

set_option maxHeartbeats 1000000 in
theorem moved_any (p a : Int) (n m : Nat) (A B : Option Addr) (c d : Nat) (r : Bool) (w : World) (hn : n ≤ 70368744177664) (hm : m ≤ 70368744177664) :
    Calls Try.prog 10 #[.int .i64 p, .agg #[.int .i64 a, .slice A n c, .slice B m d], .bool r] w fun e w' => e = .returned (.int .i64 (plc p a n m r)) ∧ ∃ k : Nat, w' = (w.alloc (.cells #[.int .i64 a, .slice A n c, .slice B m d] 24)).drewN k := by
  have hcase : (p < 0 ∨ 1099511627776 < p) ∨ (0 ≤ p ∧ p ≤ 1099511627776 ∧ (a < 0 ∨ 1099511627776 < a)) ∨ 
     (0 ≤ p ∧ p ≤ 1099511627776 ∧ 0 ≤ a ∧ a ≤ 1099511627776 ∧ p < a) ∨ (0 ≤ p ∧ p ≤ 1099511627776 ∧ 0 ≤ a ∧ a ≤ 1099511627776 ∧ p = a ∧ 0 < n) ∨ 
     (0 ≤ p ∧ p ≤ 1099511627776 ∧ 0 ≤ a ∧ a ≤ 1099511627776 ∧ p = a ∧ n = 0) ∨ (0 ≤ p ∧ p ≤ 1099511627776 ∧ 0 ≤ a ∧ a ≤ 1099511627776 ∧ a + n < p) ∨
     (0 ≤ p ∧ p ≤ 1099511627776 ∧ 0 ≤ a ∧ a ≤ 1099511627776 ∧ a < p ∧ p = a + n) ∨ (0 ≤ p ∧ p ≤ 1099511627776 ∧ 0 ≤ a ∧ a ≤ 1099511627776 ∧ a < p ∧ p < a + n) := by omega
  rcases hcase with h | ⟨h0, h1, h⟩ | ⟨h0, h1, h2, h3, h4⟩ | ⟨h0, h1, h2, h3, rfl, h5⟩ | ⟨h0, h1, h2, h3, rfl, rfl⟩ | ⟨h0, h1, h2, h3, h4⟩ | ⟨h0, h1, h2, h3, h4, rfl⟩ | ⟨h0, h1, h2, h3, h4, h5⟩
  · go_enter Try.func10, Try.ntmps10
    go_wp2_with (go_at_call 19; refine (farr_yes _ h _).mono ?_; rintro e w' ⟨rfl, rfl⟩)
    go_ret
    exact ⟨ret_int (by unfold plc; rw [if_pos (by omega)]), 0, rfl⟩
  · go_enter Try.func10, Try.ntmps10
    go_wp2_with (first | (go_at_call 19; refine (farr_no p h0 h1 _).mono ?_; rintro e w' ⟨rfl, rfl⟩) | (go_at_call 19; refine (farr_yes a h _).mono ?_; rintro e w' ⟨rfl, rfl⟩))
    go_ret
    exact ⟨ret_int (by unfold plc; rw [if_pos (by omega)]), 0, rfl⟩
  all_goals
    go_enter Try.func10, Try.ntmps10
    go_wp2_with (go_at_call 19; refine (farr_no _ (by omega) (by omega) _).mono ?_; rintro e w' ⟨rfl, rfl⟩)
    go_quiet (fail)
    go_wp2
    all_goals
      go_ret
      refine ⟨ret_int ?_, _, rfl⟩
      unfold plc; (repeat' split) <;> first | omega | simp_all
end Go.Proofs.Ytlhhefijkbkcnaa
