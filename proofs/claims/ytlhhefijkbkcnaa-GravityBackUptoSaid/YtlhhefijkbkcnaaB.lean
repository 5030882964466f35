/- The walks of both Spans. -/
import Derived.Test.YtlhhefijkbkcnaaA
import Derived.Deep.RegionHeld3
namespace Go.Proofs.Ytlhhefijkbkcnaa
open Go.RowKit

/-- Where a span is behind a change. -/
def sp1 (f t a n m how : Int) : Int :=
  if f < 0 ∨ 1099511627776 < f ∨ t < 0 ∨ 1099511627776 < t ∨ a < 0 ∨ 1099511627776 < a ∨ how < 0 ∨ 2 < how then f else plc f a n m (how == 2)
def sp2 (f t a n m how : Int) : Int :=
  if f < 0 ∨ 1099511627776 < f ∨ t < 0 ∨ 1099511627776 < t ∨ a < 0 ∨ 1099511627776 < a ∨ how < 0 ∨ 2 < how then t else plc t a n m (how != 1)

set_option maxHeartbeats 1000000 in
theorem span_in (f t a how : Int) (n m : Nat) (A B : Option Addr) (c d : Nat) (w : World) (hn : n ≤ 70368744177664) (hm : m ≤ 70368744177664)
    (h1 : 0 ≤ f) (h2 : f ≤ 1099511627776) (h3 : 0 ≤ t) (h4 : t ≤ 1099511627776) (h5 : 0 ≤ a) (h6 : a ≤ 1099511627776) (h7 : 0 ≤ how) (h8 : how ≤ 2) :
    Calls Try.prog 11 #[.agg #[.int .i64 f, .int .i64 t], .agg #[.int .i64 a, .slice A n c, .slice B m d], .int .i64 how] w fun e w' => e = .returned (.agg #[.int .i64 (sp1 f t a n m how), .int .i64 (sp2 f t a n m how)]) ∧ Below w.heap.size w w' := by
  have e1 : sp1 f t a n m how = plc f a n m (how == 2) := by unfold sp1; rw [if_neg (by omega)]
  have e2 : sp2 f t a n m how = plc t a n m (how != 1) := by unfold sp2; rw [if_neg (by omega)]
  rw [e1, e2]
  clear e1 e2
  go_enter Try.func11, Try.ntmps11
  go_wp2_with (go_at_call 18; refine (far_no _ (by omega) (by omega) _).mono ?_; rintro e w' ⟨rfl, rfl⟩)
  go_region_held3 (fun w' => w'.cell? ⟨w.heap.size, 0, none⟩ = some (.int .i64 f) ∧ w'.cell? ⟨w.heap.size, 1, none⟩ = some (.int .i64 t) ∧ w'.cell? ⟨w.heap.size + 1, 0, none⟩ = some (.int .i64 a) ∧ w'.cell? ⟨w.heap.size + 1, 1, none⟩ = some (.slice A n c) ∧ w'.cell? ⟨w.heap.size + 1, 2, none⟩ = some (.slice B m d)) (simp [go_sem, World.cell?_alloc_past])
    (first
      | (go_at_call 9; refine (place_any _ _ _ _ _ _ _ _ _ _ hn hm).mono ?_; rintro e w' ⟨rfl, k, rfl⟩))
  go_wp2
  refine bodyPost_ret (v := .agg #[.int .i64 (plc f a n m (how == 2)), .int .i64 (plc t a n m (how != 1))]) (by simp [results, Try.results11, go_sem]) rfl ⟨rfl, ?_⟩
  repeat (first | exact Below.refl _ _ | refine below_drewN ?_ _ | refine Below.drew ?_ | refine Below.alloc ?_ (by simp <;> omega) _ | refine Below.setCell ?_ (by simp <;> omega) _)

set_option maxHeartbeats 1000000 in
theorem span_out (f t a how : Int) (n m : Nat) (A B : Option Addr) (c d : Nat) (w : World)
    (h : f < 0 ∨ 1099511627776 < f ∨ t < 0 ∨ 1099511627776 < t ∨ a < 0 ∨ 1099511627776 < a ∨ how < 0 ∨ 2 < how) :
    Calls Try.prog 11 #[.agg #[.int .i64 f, .int .i64 t], .agg #[.int .i64 a, .slice A n c, .slice B m d], .int .i64 how] w fun e w' => e = .returned (.agg #[.int .i64 (sp1 f t a n m how), .int .i64 (sp2 f t a n m how)]) ∧ Below w.heap.size w w' := by
  have e1 : sp1 f t a n m how = f := by unfold sp1; rw [if_pos h]
  have e2 : sp2 f t a n m how = t := by unfold sp2; rw [if_pos h]
  rw [e1, e2]
  clear e1 e2
  have hc : (f < 0 ∨ 1099511627776 < f) ∨ (0 ≤ f ∧ f ≤ 1099511627776 ∧ (t < 0 ∨ 1099511627776 < t)) ∨ (0 ≤ f ∧ f ≤ 1099511627776 ∧ 0 ≤ t ∧ t ≤ 1099511627776 ∧ (a < 0 ∨ 1099511627776 < a)) ∨
    (0 ≤ f ∧ f ≤ 1099511627776 ∧ 0 ≤ t ∧ t ≤ 1099511627776 ∧ 0 ≤ a ∧ a ≤ 1099511627776 ∧ how < 0) ∨ (0 ≤ f ∧ f ≤ 1099511627776 ∧ 0 ≤ t ∧ t ≤ 1099511627776 ∧ 0 ≤ a ∧ a ≤ 1099511627776 ∧ 2 < how) := by omega
  clear h
  rcases hc with h | ⟨h1, h2, h⟩ | ⟨h1, h2, h3, h4, h⟩ | ⟨h1, h2, h3, h4, h5, h6, h⟩ | ⟨h1, h2, h3, h4, h5, h6, h⟩
  · go_enter Try.func11, Try.ntmps11
    go_wp2_with (go_at_call 18; refine (far_yes _ h _).mono ?_; rintro e w' ⟨rfl, rfl⟩)
    refine bodyPost_ret (v := .agg #[.int .i64 f, .int .i64 t]) (by simp [results, Try.results11, go_sem]) rfl ⟨rfl, ?_⟩
    repeat (first | exact Below.refl _ _ | refine below_drewN ?_ _ | refine Below.drew ?_ | refine Below.alloc ?_ (by simp <;> omega) _ | refine Below.setCell ?_ (by simp <;> omega) _)
  · go_enter Try.func11, Try.ntmps11
    go_wp2_with (first | (go_at_call 18; (with_reducible refine (far_no f h1 h2 _).mono ?_); rintro e w' ⟨rfl, rfl⟩) | (go_at_call 18; refine (far_yes t h _).mono ?_; rintro e w' ⟨rfl, rfl⟩))
    refine bodyPost_ret (v := .agg #[.int .i64 f, .int .i64 t]) (by simp [results, Try.results11, go_sem]) rfl ⟨rfl, ?_⟩
    repeat (first | exact Below.refl _ _ | refine below_drewN ?_ _ | refine Below.drew ?_ | refine Below.alloc ?_ (by simp <;> omega) _ | refine Below.setCell ?_ (by simp <;> omega) _)
  · go_enter Try.func11, Try.ntmps11
    go_wp2_with (first | (go_at_call 18; (with_reducible refine (far_no f h1 h2 _).mono ?_); rintro e w' ⟨rfl, rfl⟩) | (go_at_call 18; (with_reducible refine (far_no t h3 h4 _).mono ?_); rintro e w' ⟨rfl, rfl⟩) | (go_at_call 18; refine (far_yes a h _).mono ?_; rintro e w' ⟨rfl, rfl⟩))
    refine bodyPost_ret (v := .agg #[.int .i64 f, .int .i64 t]) (by simp [results, Try.results11, go_sem]) rfl ⟨rfl, ?_⟩
    repeat (first | exact Below.refl _ _ | refine below_drewN ?_ _ | refine Below.drew ?_ | refine Below.alloc ?_ (by simp <;> omega) _ | refine Below.setCell ?_ (by simp <;> omega) _)
  all_goals
    go_enter Try.func11, Try.ntmps11
    go_wp2_with (go_at_call 18; refine (far_no _ (by omega) (by omega) _).mono ?_; rintro e w' ⟨rfl, rfl⟩)
    refine bodyPost_ret (v := .agg #[.int .i64 f, .int .i64 t]) (by simp [results, Try.results11, go_sem]) rfl ⟨rfl, ?_⟩
    repeat (first | exact Below.refl _ _ | refine below_drewN ?_ _ | refine Below.drew ?_ | refine Below.alloc ?_ (by simp <;> omega) _ | refine Below.setCell ?_ (by simp <;> omega) _)

theorem span_any (f t a how : Int) (n m : Nat) (A B : Option Addr) (c d : Nat) (w : World) (hn : n ≤ 70368744177664) (hm : m ≤ 70368744177664) :
    Calls Try.prog 11 #[.agg #[.int .i64 f, .int .i64 t], .agg #[.int .i64 a, .slice A n c, .slice B m d], .int .i64 how] w fun e w' => e = .returned (.agg #[.int .i64 (sp1 f t a n m how), .int .i64 (sp2 f t a n m how)]) ∧ Below w.heap.size w w' := by
  by_cases h : f < 0 ∨ 1099511627776 < f ∨ t < 0 ∨ 1099511627776 < t ∨ a < 0 ∨ 1099511627776 < a ∨ how < 0 ∨ 2 < how
  · exact span_out f t a how n m A B c d w h
  · exact span_in f t a how n m A B c d w hn hm (by omega) (by omega) (by omega) (by omega) (by omega) (by omega) (by omega) (by omega)

set_option maxHeartbeats 1000000 in
theorem rspan_in (f t a how : Int) (n m : Nat) (A B : Option Addr) (c d : Nat) (w : World) (hn : n ≤ 70368744177664) (hm : m ≤ 70368744177664)
    (h1 : 0 ≤ f) (h2 : f ≤ 1099511627776) (h3 : 0 ≤ t) (h4 : t ≤ 1099511627776) (h5 : 0 ≤ a) (h6 : a ≤ 1099511627776) (h7 : 0 ≤ how) (h8 : how ≤ 2) :
    Calls Try.prog 12 #[.agg #[.int .i64 f, .int .i64 t], .agg #[.int .i64 a, .slice A n c, .slice B m d], .int .i64 how] w fun e w' => e = .returned (.agg #[.int .i64 (sp1 f t a n m how), .int .i64 (sp2 f t a n m how)]) ∧ Below w.heap.size w w' := by
  have e1 : sp1 f t a n m how = plc f a n m (how == 2) := by unfold sp1; rw [if_neg (by omega)]
  have e2 : sp2 f t a n m how = plc t a n m (how != 1) := by unfold sp2; rw [if_neg (by omega)]
  rw [e1, e2]
  clear e1 e2
  go_enter Try.func12, Try.ntmps12
  go_wp2_with (go_at_call 19; refine (farr_no _ (by omega) (by omega) _).mono ?_; rintro e w' ⟨rfl, rfl⟩)
  go_region_held3 (fun w' => w'.cell? ⟨w.heap.size, 0, none⟩ = some (.int .i64 f) ∧ w'.cell? ⟨w.heap.size, 1, none⟩ = some (.int .i64 t) ∧ w'.cell? ⟨w.heap.size + 1, 0, none⟩ = some (.int .i64 a) ∧ w'.cell? ⟨w.heap.size + 1, 1, none⟩ = some (.slice A n c) ∧ w'.cell? ⟨w.heap.size + 1, 2, none⟩ = some (.slice B m d)) (simp [go_sem, World.cell?_alloc_past])
    (first
      | (go_at_call 10; refine (moved_any _ _ _ _ _ _ _ _ _ _ hn hm).mono ?_; rintro e w' ⟨rfl, k, rfl⟩))
  go_wp2
  refine bodyPost_ret (v := .agg #[.int .i64 (plc f a n m (how == 2)), .int .i64 (plc t a n m (how != 1))]) (by simp [results, Try.results12, go_sem]) rfl ⟨rfl, ?_⟩
  repeat (first | exact Below.refl _ _ | refine below_drewN ?_ _ | refine Below.drew ?_ | refine Below.alloc ?_ (by simp <;> omega) _ | refine Below.setCell ?_ (by simp <;> omega) _)

set_option maxHeartbeats 1000000 in
theorem rspan_out (f t a how : Int) (n m : Nat) (A B : Option Addr) (c d : Nat) (w : World)
    (h : f < 0 ∨ 1099511627776 < f ∨ t < 0 ∨ 1099511627776 < t ∨ a < 0 ∨ 1099511627776 < a ∨ how < 0 ∨ 2 < how) :
    Calls Try.prog 12 #[.agg #[.int .i64 f, .int .i64 t], .agg #[.int .i64 a, .slice A n c, .slice B m d], .int .i64 how] w fun e w' => e = .returned (.agg #[.int .i64 (sp1 f t a n m how), .int .i64 (sp2 f t a n m how)]) ∧ Below w.heap.size w w' := by
  have e1 : sp1 f t a n m how = f := by unfold sp1; rw [if_pos h]
  have e2 : sp2 f t a n m how = t := by unfold sp2; rw [if_pos h]
  rw [e1, e2]
  clear e1 e2
  have hc : (f < 0 ∨ 1099511627776 < f) ∨ (0 ≤ f ∧ f ≤ 1099511627776 ∧ (t < 0 ∨ 1099511627776 < t)) ∨ (0 ≤ f ∧ f ≤ 1099511627776 ∧ 0 ≤ t ∧ t ≤ 1099511627776 ∧ (a < 0 ∨ 1099511627776 < a)) ∨
    (0 ≤ f ∧ f ≤ 1099511627776 ∧ 0 ≤ t ∧ t ≤ 1099511627776 ∧ 0 ≤ a ∧ a ≤ 1099511627776 ∧ how < 0) ∨ (0 ≤ f ∧ f ≤ 1099511627776 ∧ 0 ≤ t ∧ t ≤ 1099511627776 ∧ 0 ≤ a ∧ a ≤ 1099511627776 ∧ 2 < how) := by omega
  clear h
  rcases hc with h | ⟨h1, h2, h⟩ | ⟨h1, h2, h3, h4, h⟩ | ⟨h1, h2, h3, h4, h5, h6, h⟩ | ⟨h1, h2, h3, h4, h5, h6, h⟩
  · go_enter Try.func12, Try.ntmps12
    go_wp2_with (go_at_call 19; refine (farr_yes _ h _).mono ?_; rintro e w' ⟨rfl, rfl⟩)
    refine bodyPost_ret (v := .agg #[.int .i64 f, .int .i64 t]) (by simp [results, Try.results12, go_sem]) rfl ⟨rfl, ?_⟩
    repeat (first | exact Below.refl _ _ | refine below_drewN ?_ _ | refine Below.drew ?_ | refine Below.alloc ?_ (by simp <;> omega) _ | refine Below.setCell ?_ (by simp <;> omega) _)
  · go_enter Try.func12, Try.ntmps12
    go_wp2_with (first | (go_at_call 19; (with_reducible refine (farr_no f h1 h2 _).mono ?_); rintro e w' ⟨rfl, rfl⟩) | (go_at_call 19; refine (farr_yes t h _).mono ?_; rintro e w' ⟨rfl, rfl⟩))
    refine bodyPost_ret (v := .agg #[.int .i64 f, .int .i64 t]) (by simp [results, Try.results12, go_sem]) rfl ⟨rfl, ?_⟩
    repeat (first | exact Below.refl _ _ | refine below_drewN ?_ _ | refine Below.drew ?_ | refine Below.alloc ?_ (by simp <;> omega) _ | refine Below.setCell ?_ (by simp <;> omega) _)
  · go_enter Try.func12, Try.ntmps12
    go_wp2_with (first | (go_at_call 19; (with_reducible refine (farr_no f h1 h2 _).mono ?_); rintro e w' ⟨rfl, rfl⟩) | (go_at_call 19; (with_reducible refine (farr_no t h3 h4 _).mono ?_); rintro e w' ⟨rfl, rfl⟩) | (go_at_call 19; refine (farr_yes a h _).mono ?_; rintro e w' ⟨rfl, rfl⟩))
    refine bodyPost_ret (v := .agg #[.int .i64 f, .int .i64 t]) (by simp [results, Try.results12, go_sem]) rfl ⟨rfl, ?_⟩
    repeat (first | exact Below.refl _ _ | refine below_drewN ?_ _ | refine Below.drew ?_ | refine Below.alloc ?_ (by simp <;> omega) _ | refine Below.setCell ?_ (by simp <;> omega) _)
  all_goals
    go_enter Try.func12, Try.ntmps12
    go_wp2_with (go_at_call 19; refine (farr_no _ (by omega) (by omega) _).mono ?_; rintro e w' ⟨rfl, rfl⟩)
    refine bodyPost_ret (v := .agg #[.int .i64 f, .int .i64 t]) (by simp [results, Try.results12, go_sem]) rfl ⟨rfl, ?_⟩
    repeat (first | exact Below.refl _ _ | refine below_drewN ?_ _ | refine Below.drew ?_ | refine Below.alloc ?_ (by simp <;> omega) _ | refine Below.setCell ?_ (by simp <;> omega) _)

theorem rspan_any (f t a how : Int) (n m : Nat) (A B : Option Addr) (c d : Nat) (w : World) (hn : n ≤ 70368744177664) (hm : m ≤ 70368744177664) :
    Calls Try.prog 12 #[.agg #[.int .i64 f, .int .i64 t], .agg #[.int .i64 a, .slice A n c, .slice B m d], .int .i64 how] w fun e w' => e = .returned (.agg #[.int .i64 (sp1 f t a n m how), .int .i64 (sp2 f t a n m how)]) ∧ Below w.heap.size w w' := by
  by_cases h : f < 0 ∨ 1099511627776 < f ∨ t < 0 ∨ 1099511627776 < t ∨ a < 0 ∨ 1099511627776 < a ∨ how < 0 ∨ 2 < how
  · exact rspan_out f t a how n m A B c d w h
  · exact rspan_in f t a how n m A B c d w hn hm (by omega) (by omega) (by omega) (by omega) (by omega) (by omega) (by omega) (by omega)
end Go.Proofs.Ytlhhefijkbkcnaa
