/- The walk of known. -/
import Derived.Test.YtkibhinpbpgkeaaO
namespace Go.Proofs.Ytkibhinpbpgkeaa
open Go.RowKit Go.ChangeMaps

def mA : Mk := ⟨4, 1, 3, 5⟩
def mB : Mk := ⟨2, 1, 9, 5⟩
theorem known_list : addL [] mA = [mA] ∧ addL [mA] mB = [mB, mA] ∧ addN [] mA = 0 ∧ addN [mA] mB = 0 ∧ depN [] [mB, mA] 2 = 1 ∧ depN [] [mB, mA] 4 = 2 ∧ depN [] [mB, mA] 9 = 0 ∧ addN [mB, mA] ⟨4, 0, 0, 0⟩ = 1 ∧ addN [mB, mA] ⟨0, 0, -1, 0⟩ = 2 := by decide
section
variable (B s b : Nat)
theorem k_add1 (w : World) (h : SetK w B s b []) : Calls Try.prog 12 #[.pointer (some ⟨s, 0, none⟩), .agg #[.int .i64 4, .int .i64 1, .int .i64 3, .int .i64 5]] w fun e w' => e = .returned (.int .i64 0) ∧ SetK w' B s b [mA] ∧ Below B w w' := by
  have h1 := add_k w B s b [] mA 0 known_list.2.2.1 h
  rw [known_list.1] at h1
  exact h1
theorem k_add2 (w : World) (h : SetK w B s b [mA]) : Calls Try.prog 12 #[.pointer (some ⟨s, 0, none⟩), .agg #[.int .i64 2, .int .i64 1, .int .i64 9, .int .i64 5]] w fun e w' => e = .returned (.int .i64 0) ∧ SetK w' B s b [mB, mA] ∧ Below B w w' := by
  have h1 := add_k w B s b [mA] mB 0 known_list.2.2.2.1 h
  rw [known_list.2.1] at h1
  exact h1
theorem k_add3 (w : World) (h : SetK w B s b [mB, mA]) : Calls Try.prog 12 #[.pointer (some ⟨s, 0, none⟩), .agg #[.int .i64 4, .int .i64 0, .int .i64 0, .int .i64 0]] w fun e w' => e = .returned (.int .i64 1) ∧ SetK w' B s b [mB, mA] ∧ Below B w w' := by
  have h1 := add_k w B s b [mB, mA] ⟨4, 0, 0, 0⟩ 1 (by exact known_list.2.2.2.2.2.2.2.1) h
  rw [show addL [mB, mA] ⟨4, 0, 0, 0⟩ = [mB, mA] from by decide] at h1
  exact h1
theorem k_add4 (w : World) (h : SetK w B s b [mB, mA]) : Calls Try.prog 12 #[.pointer (some ⟨s, 0, none⟩), .agg #[.int .i64 0, .int .i64 0, .int .i64 (-1), .int .i64 0]] w fun e w' => e = .returned (.int .i64 2) ∧ SetK w' B s b [mB, mA] ∧ Below B w w' := by
  have h1 := add_k w B s b [mB, mA] ⟨0, 0, -1, 0⟩ 2 (by exact known_list.2.2.2.2.2.2.2.2) h
  rw [show addL [mB, mA] ⟨0, 0, -1, 0⟩ = [mB, mA] from by decide] at h1
  exact h1
theorem k_get (w : World) (h : SetK w B s b [mB, mA]) : Calls Try.prog 29 #[.pointer (some ⟨s, 0, none⟩), .int .i64 4] w fun e w' => e = .returned (.tuple #[.agg #[.int .i64 4, .int .i64 1, .int .i64 3, .int .i64 5], .bool true]) ∧ Below w.heap.size w w' :=
  get_k w B s b [mB, mA] mA h (by simp)
theorem k_all (w : World) (h : SetK w B s b [mB, mA]) : Calls Try.prog 16 #[.pointer (some ⟨s, 0, none⟩)] w fun e w' => ∃ g p, e = .returned (.slice (some ⟨g, 0, none⟩) 2 p) ∧ g < w'.heap.size ∧ w'.cell? ⟨g, 0, none⟩ = some (.int .i64 2) ∧ Below w.heap.size w w' := by
  refine (all_k w B s b [mB, mA] h).mono ?_
  rintro e w' ⟨A, p, rfl, ho, hb⟩
  obtain ⟨g, cap, hv, hg1, hg2⟩ := ho.form (by simp)
  have hA : A = some ⟨g, 0, none⟩ := by injection hv
  subst hA
  exact ⟨g, p, rfl, hg2, (mark_at ho hg2 (Below.refl _ _) (k := 0) (by simp)).1, hb⟩
end

set_option maxHeartbeats 1000000 in
theorem known_any (W : World) : Calls Try.prog 17 #[] W fun e w' => e = .returned (.bool true) ∧ Below W.heap.size W w' := by
  obtain ⟨B, hB⟩ : ∃ B, W.heap.size = B := ⟨_, rfl⟩
  have HN : Hid (Calls Try.prog 10 #[] W fun e w' => e = .returned (.pointer (some ⟨B + 1, 0, none⟩)) ∧ SetK w' B (B + 1) B [] ∧ Below B W w') := by have h := new_k W; rw [hB] at h; exact h
  rw [hB]
  clear hB
  have d2 : Hid ((depN [] [mB, mA] 2 : Int) = 1) := by rw [Hid, known_list.2.2.2.2.1]; rfl
  have d4 : Hid ((depN [] [mB, mA] 4 : Int) = 2) := by rw [Hid, known_list.2.2.2.2.2.1]; rfl
  have d9 : Hid ((depN [] [mB, mA] 9 : Int) = 0) := by rw [Hid, known_list.2.2.2.2.2.2.1]; rfl
  have l2 : Hid ((([mB, mA] : List Mk).length : Int) = 2) := rfl
  go_enter Try.func17, Try.ntmps17
  go_wp2_with (first
    | (go_at_call 10; (with_reducible refine (HN.out).mono ?_); rintro e w1 ⟨rfl, hk1, hb1⟩)
    | (go_at_call 12; (with_reducible refine (k_add1 B _ _ _ hk1).mono ?_); rintro e w2 ⟨rfl, hk2, hb2⟩)
    | (go_at_call 12; (with_reducible refine (k_add2 B _ _ _ hk2).mono ?_); rintro e w3 ⟨rfl, hk3, hb3⟩)
    | (go_at_call 16; (with_reducible refine (k_all B _ _ _ hk3).mono ?_); rintro e w4 ⟨g, p, rfl, hg, hc4, hb4⟩; have hk4 := hk3.below hb4; have HB4 := Lib.hid (hb4.mono hk3.size.2.2); clear hb4)
    | (go_at_call 29; (with_reducible refine (k_get B _ _ _ hk4).mono ?_); rintro e w5 ⟨rfl, hb5⟩; have hk5 := hk4.below hb5; have hg5 : g < w5.heap.size := (by have := hb5.size; omega); have hc5 : w5.cell? ⟨g, 0, none⟩ = some (.int .i64 2) := (hb5.cell (p := ⟨g, 0, none⟩) hg).trans hc4; have HB5 := Lib.hid (hb5.mono hk4.size.2.2); clear hb5)
    | (go_at_call 14; (with_reducible refine (depth_k _ B _ _ _ 2 1 d2 (hk5.alloc _)).mono ?_); rintro e w6 ⟨rfl, hb6⟩; have hk6 := (hk5.alloc _).below hb6; have HB6 := Lib.hid (hb6.mono (hk5.alloc _).size.2.2); clear hb6)
    | (go_at_call 14; (with_reducible refine (depth_k _ B _ _ _ 4 2 d4 hk6).mono ?_); rintro e w7 ⟨rfl, hb7⟩; have hk7 := hk6.below hb7; have HB7 := Lib.hid (hb7.mono hk6.size.2.2); clear hb7)
    | (go_at_call 14; (with_reducible refine (depth_k _ B _ _ _ 9 0 d9 hk7).mono ?_); rintro e w8 ⟨rfl, hb8⟩; have hk8 := hk7.below hb8; have HB8 := Lib.hid (hb8.mono hk7.size.2.2); clear hb8)
    | (go_at_call 19; (with_reducible refine (len_k _ B _ _ _ 2 l2 hk8).mono ?_); rintro e w' ⟨rfl, rfl⟩)
    | (go_at_call 12; (with_reducible refine (k_add3 B _ _ _ hk8).mono ?_); rintro e w9 ⟨rfl, hk9, hb9⟩)
    | (go_at_call 12; (with_reducible refine (k_add4 B _ _ _ hk9).mono ?_); rintro e w10 ⟨rfl, hk10, hb10⟩)
    | (go_at_call 13; (with_reducible refine (rem_nil _ 1).mono ?_); rintro e w' ⟨rfl, rfl⟩)
    | (go_at_call 19; (with_reducible refine (len_none _).mono ?_); rintro e w' ⟨rfl, rfl⟩))
  go_ret
  exact ⟨rfl, ((((((((hb1.trans hb2).trans hb3).trans HB4.out).trans HB5.out).alloc hk5.size.2.2 _).trans HB6.out).trans HB7.out).trans HB8.out).trans (hb9.trans hb10)⟩
end Go.Proofs.Ytkibhinpbpgkeaa
