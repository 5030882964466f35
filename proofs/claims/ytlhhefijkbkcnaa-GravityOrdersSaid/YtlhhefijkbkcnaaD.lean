/- The walk of known. -/
import Derived.Test.YtlhhefijkbkcnaaB
import Derived.Test.YtlhhefijkbkcnaaC
namespace Go.Proofs.Ytlhhefijkbkcnaa
open Go.RowKit

theorem place_is (p a : Int) (n m : Nat) (A B : Option Addr) (c d : Nat) (r : Bool) (v : Int) (w : World) (hn : n ≤ 70368744177664) (hm : m ≤ 70368744177664) (hv : plc p a n m r = v) :
    Calls Try.prog 9 #[.int .i64 p, .agg #[.int .i64 a, .slice A n c, .slice B m d], .bool r] w fun e w' => e = .returned (.int .i64 v) ∧ ∃ k : Nat, w' = (w.alloc (.cells #[.int .i64 a, .slice A n c, .slice B m d] 24)).drewN k := by
  subst hv; exact place_any p a n m A B c d r w hn hm
theorem span_is (f t a how : Int) (n m : Nat) (A B : Option Addr) (c d : Nat) (x y : Int) (w : World) (hn : n ≤ 70368744177664) (hm : m ≤ 70368744177664) (hx : sp1 f t a n m how = x) (hy : sp2 f t a n m how = y) :
    Calls Try.prog 11 #[.agg #[.int .i64 f, .int .i64 t], .agg #[.int .i64 a, .slice A n c, .slice B m d], .int .i64 how] w fun e w' => e = .returned (.agg #[.int .i64 x, .int .i64 y]) ∧ Below w.heap.size w w' := by
  subst hx; subst hy; exact span_any f t a how n m A B c d w hn hm

theorem cells_of {W w1 : World} (hb : Below W.heap.size W w1) : ∀ b o, b < W.heap.size → w1.cell? ⟨b, o, none⟩ = W.cell? ⟨b, o, none⟩ :=
  fun b o h => hb.cell (p := ⟨b, o, none⟩) h

set_option maxHeartbeats 2000000 in
theorem known_any (w : World) : Calls Try.prog 14 #[] w fun e w' => e = .returned (.bool true) ∧ Below w.heap.size w w' := by
  go_enter Try.func14, Try.ntmps14
  go_wp2_with (first | (go_at_call 9; (with_reducible refine (place_is 3 3 0 2 _ _ _ _ true 5 _ (by decide) (by decide) (by decide)).mono ?_); rintro e w' ⟨rfl, k, rfl⟩) | (go_at_call 9; (with_reducible refine (place_is 3 3 0 2 _ _ _ _ false 3 _ (by decide) (by decide) (by decide)).mono ?_); rintro e w' ⟨rfl, k, rfl⟩) | (go_at_call 9; (with_reducible refine (place_is 4 1 3 1 _ _ _ _ false 2 _ (by decide) (by decide) (by decide)).mono ?_); rintro e w' ⟨rfl, k, rfl⟩) | (go_at_call 9; (with_reducible refine (place_is 2 1 3 1 _ _ _ _ true 2 _ (by decide) (by decide) (by decide)).mono ?_); rintro e w' ⟨rfl, k, rfl⟩) | (go_at_call 9; (with_reducible refine (place_is 2 1 3 1 _ _ _ _ false 1 _ (by decide) (by decide) (by decide)).mono ?_); rintro e w' ⟨rfl, k, rfl⟩) | (go_at_call 11; (with_reducible refine (span_is 3 3 3 0 0 2 _ _ _ _ 3 5 _ (by decide) (by decide) (by decide) (by decide)).mono ?_); rintro e w' ⟨rfl, hb⟩; have hcl := cells_of hb; have hz1 : w.heap.size + 1 < w'.heap.size := (by have := hb.size; (try simp at this); omega); have HB1 := Lib.hid hb; clear hb) | (go_at_call 11; (with_reducible refine (span_is 3 3 3 2 0 2 _ _ _ _ 5 5 _ (by decide) (by decide) (by decide) (by decide)).mono ?_); rintro e w' ⟨rfl, hb⟩; have hcl := cells_of hb; have hz1 : w.heap.size + 1 < w'.heap.size := (by have := hb.size; (try simp at this); omega); have HB2 := Lib.hid hb; clear hb) | (go_at_call 11; (with_reducible refine (span_is 3 3 3 1 0 2 _ _ _ _ 3 3 _ (by decide) (by decide) (by decide) (by decide)).mono ?_); rintro e w' ⟨rfl, hb⟩; have hcl := cells_of hb; have hz1 : w.heap.size + 1 < w'.heap.size := (by have := hb.size; (try simp at this); omega); have HB3 := Lib.hid hb; clear hb))
  go_ret
  refine ⟨rfl, (((?_ : Below w.heap.size w _).trans (HB1.out.mono (by simp <;> omega))).trans (HB2.out.mono (by omega))).trans (HB3.out.mono (by omega))⟩
  repeat (first | exact Below.refl _ _ | refine below_drewN ?_ _ | refine Below.drew ?_ | refine Below.alloc ?_ (by simp <;> omega) _ | refine Below.setCell ?_ (by simp <;> omega) _)
end Go.Proofs.Ytlhhefijkbkcnaa
