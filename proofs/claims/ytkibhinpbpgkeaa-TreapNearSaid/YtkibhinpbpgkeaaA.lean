/- The walks of cmp.Compare, cmp.Or, order, above, Ahead, Over, may, badSpan. -/
import Derived.Test.YtkibhinpbpgkeaaRows
import Derived.Test.YtkibhinpbpgkeaaT
import Derived.Test.YtkibhinpbpgkeaaHold
import Derived.WalkKit
import Derived.WalkSpells
import Derived.WalkLawsBesides
import Derived.Deep.QuietTactic
import Derived.BigQuiet
import Derived.Deep.RegionHeld3
import Derived.Lib.Hide
namespace Go.Proofs.Ytkibhinpbpgkeaa
open Go.RowKit

theorem ret_int {k : IntKind} {a b : Int} (h : a = b) : Ending.returned (.int k a) = .returned (.int k b) := by rw [h]
theorem ret_bool {a b : Bool} (h : a = b) : Ending.returned (.bool a) = .returned (.bool b) := by rw [h]
theorem cells_of {W w1 : World} (hb : Below W.heap.size W w1) : ∀ b o, b < W.heap.size → w1.cell? ⟨b, o, none⟩ = W.cell? ⟨b, o, none⟩ :=
  fun b o h => hb.cell (p := ⟨b, o, none⟩) h

def cmpv (x y : Int) : Int := if x < y then -1 else if y < x then 1 else 0
def orV : List Int → Int
  | [] => 0
  | x :: xs => if x = 0 then orV xs else x
theorem orV_drop (xs : List Int) (k : Nat) (hk : k < xs.length) : orV (xs.drop k) = if xs.getD k 0 = 0 then orV (xs.drop (k + 1)) else xs.getD k 0 := by
  rw [List.drop_eq_getElem_cons hk]
  simp [orV, List.getD, hk]

theorem isNaN_any (x : Int) (w : World) : Calls Try.prog 54 #[.int .i64 x] w fun e w' => e = .returned (.bool false) ∧ w = w' := by
  go_enter Try.func54, Try.ntmps54
  go_wp2
  go_ret
  exact ⟨by simp, rfl⟩
theorem cmp_any (x y : Int) (w : World) : Calls Try.prog 49 #[.int .i64 x, .int .i64 y] w fun e w' => e = .returned (.int .i64 (cmpv x y)) ∧ w = w' := by
  go_enter Try.func49, Try.ntmps49
  go_wp2_with (go_at_call 54; refine (isNaN_any _ _).mono ?_; rintro e w' ⟨rfl, rfl⟩)
  all_goals
    go_ret
    exact ⟨ret_int (by unfold cmpv; (repeat' split) <;> omega), rfl⟩

set_option maxHeartbeats 400000 in
theorem or_any (A : Option Addr) (n c B : Nat) (xs : List Int) (w : World) (hr : Rds w B 1 A n (xs.map (Value.int .i64))) (hn : n ≤ 140737488355328) :
    Calls Try.prog 48 #[.slice A n c] w fun e w' => e = .returned (.int .i64 (orV xs)) ∧ w = w' := by
  have lx := hr.int_len
  go_enter Try.func48, Try.ntmps48
  go_wp2
  go_loop [8] (fun i => ∃ k : Nat, k ≤ n ∧ i = .int .i64 k ∧ Hid (orV xs = orV (xs.drop k))) (fun i => n - (intOf i).toNat)
  case atStart => exact ⟨0, Nat.zero_le _, rfl, rfl⟩
  case round =>
    obtain ⟨k, hk, rfl, Hk⟩ := hrel
    by_cases hlt : k < n
    · obtain ⟨ad, x, rfl, _, hcx, Hx⟩ := hr.int_at hlt
      have Hd := Lib.hid (orV_drop xs k (by omega))
      by_cases h0 : x = 0
      · subst h0
        go_wp2
        go_round
        case rel => exact ⟨k + 1, by omega, by go_num, by have h := Hd.out; rw [← Hx.out, if_pos rfl] at h; exact Hk.out.trans h⟩
        case measure => simp [intOf]; omega
      · have hb : (x != 0) = true := by simpa using h0
        go_wp2
        go_ret
        exact ⟨ret_int (by have h := Hd.out; rw [← Hx.out, if_neg h0] at h; rw [Hk.out, h]), rfl⟩
    · go_wp2
      go_ret
      exact ⟨ret_int (by rw [Hk.out, List.drop_of_length_le (by omega)]; rfl), rfl⟩

/-- What order answers. -/
def ord (a b : Mk) : Int := if lt a b then -1 else if lt b a then 1 else 0
theorem ord_eq (a b : Mk) : orV [cmpv a.fr b.fr, cmpv b.to a.to, cmpv a.id b.id] = ord a b := by
  simp only [orV, cmpv, ord, lt_iff]
  (repeat' split) <;> first | rfl | omega

theorem rds3 (W : World) (g B : Nat) (x y z : Int) (hB : g < B) (h0 : W.cell? ⟨g, 0, none⟩ = some (.int .i64 x)) (h1 : W.cell? ⟨g, 1, none⟩ = some (.int .i64 y)) (h2 : W.cell? ⟨g, 2, none⟩ = some (.int .i64 z)) :
    Rds W B 1 (some ⟨g, 0, none⟩) 3 ([x, y, z].map (Value.int .i64)) := by
  refine ⟨rfl, fun j hj => ⟨_, rfl, hB, ?_⟩⟩
  simp only [List.map_cons, List.map_nil, List.length_cons, List.length_nil] at hj
  have e : ((⟨g, 0, none⟩ : Addr).add j) = ⟨g, j, none⟩ := by unfold Addr.add; split <;> simp_all
  rw [e]
  have hj3 : j = 0 ∨ j = 1 ∨ j = 2 := by omega
  rcases hj3 with rfl | rfl | rfl
  · exact h0
  · exact h1
  · exact h2
set_option maxHeartbeats 1000000 in
theorem order_any (a b : Mk) (w : World) : Calls Try.prog 30 #[.agg #[.int .i64 a.id, .int .i64 a.fr, .int .i64 a.to, .int .i64 a.pr], .agg #[.int .i64 b.id, .int .i64 b.fr, .int .i64 b.to, .int .i64 b.pr]] w
    fun e w' => e = .returned (.int .i64 (ord a b)) ∧ Below w.heap.size w w' := by
  obtain ⟨c1, C1⟩ : ∃ v, Hid (cmpv a.fr b.fr = v) := ⟨_, rfl⟩
  obtain ⟨c2, C2⟩ : ∃ v, Hid (cmpv b.to a.to = v) := ⟨_, rfl⟩
  obtain ⟨c3, C3⟩ : ∃ v, Hid (cmpv a.id b.id = v) := ⟨_, rfl⟩
  have cmp_is : ∀ (x y v : Int) (W : World), Hid (cmpv x y = v) → Calls Try.prog 49 #[.int .i64 x, .int .i64 y] W fun e w' => e = .returned (.int .i64 v) ∧ W = w' := by
    intro x y v W h; have h := h.out; subst h; exact cmp_any x y W
  have HC := Lib.hid cmp_is
  clear cmp_is
  go_enter Try.func30, Try.ntmps30
  go_wp2
  go_region_held3 (fun w' => w'.cell? ⟨w.heap.size, 0, none⟩ = some (.int .i64 a.id) ∧ w'.cell? ⟨w.heap.size, 1, none⟩ = some (.int .i64 a.fr) ∧ w'.cell? ⟨w.heap.size, 2, none⟩ = some (.int .i64 a.to) ∧
      w'.cell? ⟨w.heap.size + 1, 0, none⟩ = some (.int .i64 b.id) ∧ w'.cell? ⟨w.heap.size + 1, 1, none⟩ = some (.int .i64 b.fr) ∧ w'.cell? ⟨w.heap.size + 1, 2, none⟩ = some (.int .i64 b.to)) (simp [go_sem, World.cell?_alloc_past, *])
    (first
      | (go_at_call 49; (with_reducible refine (HC.out a.fr b.fr c1 _ C1).mono ?_); rintro e w' ⟨rfl, rfl⟩)
      | (go_at_call 49; (with_reducible refine (HC.out b.to a.to c2 _ C2).mono ?_); rintro e w' ⟨rfl, rfl⟩)
      | (go_at_call 49; (with_reducible refine (HC.out a.id b.id c3 _ C3).mono ?_); rintro e w' ⟨rfl, rfl⟩)
      | (go_at_call 48; (with_reducible refine (or_any _ 3 3 _ [c1, c2, c3] _ (rds3 _ _ (w.heap.size + 1 + 1 + 1) c1 c2 c3 (by omega) (by simp [go_sem]) (by simp [go_sem]) (by simp [go_sem])) (by decide)).mono ?_); rintro e w' ⟨rfl, rfl⟩))
  go_wp2
  go_ret
  refine ⟨ret_int ?_, ?_⟩
  · rw [← C1.out, ← C2.out, ← C3.out]; exact ord_eq a b
  · repeat (first | exact Below.refl _ _ | refine below_drewN ?_ _ | refine Below.drew ?_ | refine Below.alloc ?_ (by simp <;> omega) _)

set_option maxHeartbeats 1000000 in
theorem above_any (a b : Mk) (w : World) : Calls Try.prog 45 #[.agg #[.int .i64 a.id, .int .i64 a.fr, .int .i64 a.to, .int .i64 a.pr], .agg #[.int .i64 b.id, .int .i64 b.fr, .int .i64 b.to, .int .i64 b.pr]] w
    fun e w' => e = .returned (.bool (abv a b)) ∧ Below w.heap.size w w' := by
  go_enter Try.func45, Try.ntmps45
  go_wp2
  all_goals
    go_ret
    refine ⟨ret_bool ?_, ?_⟩
    · rw [Bool.eq_iff_iff]; simp [abv_iff]; try omega
    · repeat (first | exact Below.refl _ _ | refine below_drewN ?_ _ | refine Below.drew ?_ | refine Below.alloc ?_ (by simp <;> omega) _)
set_option maxHeartbeats 1000000 in
theorem over_any (a b : Mk) (w : World) : Calls Try.prog 36 #[.agg #[.int .i64 a.id, .int .i64 a.fr, .int .i64 a.to, .int .i64 a.pr], .agg #[.int .i64 b.id, .int .i64 b.fr, .int .i64 b.to, .int .i64 b.pr]] w
    fun e w' => e = .returned (.bool (abv a b)) ∧ Below w.heap.size w w' := by
  go_enter Try.func36, Try.ntmps36
  go_wp2
  all_goals
    go_ret
    refine ⟨ret_bool ?_, ?_⟩
    · rw [Bool.eq_iff_iff]; simp [abv_iff]; try omega
    · repeat (first | exact Below.refl _ _ | refine below_drewN ?_ _ | refine Below.drew ?_ | refine Below.alloc ?_ (by simp <;> omega) _)
set_option maxHeartbeats 1000000 in
theorem ahead_any (a b : Mk) (w : World) : Calls Try.prog 23 #[.agg #[.int .i64 a.id, .int .i64 a.fr, .int .i64 a.to, .int .i64 a.pr], .agg #[.int .i64 b.id, .int .i64 b.fr, .int .i64 b.to, .int .i64 b.pr]] w
    fun e w' => e = .returned (.bool (lt a b)) ∧ Below w.heap.size w w' := by
  go_enter Try.func23, Try.ntmps23
  go_wp2
  all_goals
    go_ret
    refine ⟨ret_bool ?_, ?_⟩
    · rw [Bool.eq_iff_iff]; simp at *; simp [lt_iff]; try omega
    · repeat (first | exact Below.refl _ _ | refine below_drewN ?_ _ | refine Below.drew ?_ | refine Below.alloc ?_ (by simp <;> omega) _)

/-- May a span be a mark's? -/
def mayB (f t : Int) : Bool := decide (0 ≤ f ∧ f ≤ t ∧ t ≤ 1099511627776)
theorem may_any (f t : Int) (w : World) : Calls Try.prog 25 #[.int .i64 f, .int .i64 t] w fun e w' => e = .returned (.bool (mayB f t)) ∧ w = w' := by
  go_enter Try.func25, Try.ntmps25
  go_wp2
  all_goals
    go_ret
    exact ⟨ret_bool (by rw [Bool.eq_iff_iff]; simp [mayB]; try omega), rfl⟩
theorem bad_any (f t : Int) (w : World) : Calls Try.prog 33 #[.int .i64 f, .int .i64 t] w fun e w' => e = .returned (.bool (!mayB f t)) ∧ w = w' := by
  go_enter Try.func33, Try.ntmps33
  go_wp2
  all_goals
    go_ret
    exact ⟨ret_bool (by rw [Bool.eq_iff_iff]; simp [mayB]; try omega), rfl⟩
end Go.Proofs.Ytkibhinpbpgkeaa
