/- The walks of Add, Remove, Move. -/
import Derived.Test.YtkibhinpbpgkeaaG
namespace Go.Proofs.Ytkibhinpbpgkeaa
open Go.RowKit Go.ChangeMaps

theorem may_v (f t : Int) (v : Bool) (hv : Hid (mayB f t = v)) (w : World) : Calls Try.prog 25 #[.int .i64 f, .int .i64 t] w fun e w' => e = .returned (.bool v) ∧ w = w' := by
  have h := hv.out; subst h; exact may_any f t w
theorem has_v (W : World) (s b : Nat) (t : TR) (i : Int) (v : Bool) (hv : Hid (hasB t.list i = v)) (h : SetIn W s b t) : Calls Try.prog 26 #[.pointer (some ⟨s, 0, none⟩), .int .i64 i] W fun e w' => e = .returned (.bool v) ∧ Below W.heap.size W w' := by
  have h1 := hv.out; subst h1; exact has_any W s b t i h

/-- What Add answers, and what is there then. -/
def addN (K : List Mk) (m : Mk) : Int := if mayB m.fr m.to = false then 2 else if hasB K m.id = true then 1 else if 600 ≤ K.length then 3 else 0
def addL (K : List Mk) (m : Mk) : List Mk := if addN K m = 0 then ins K m else K

/-- What a deed leaves: the set with the list K, at old blocks or new ones. -/
def Left (W : World) (s b : Nat) (t : TR) (K : List Mk) (w' : World) : Prop :=
  ∃ t', SetIn w' s b t' ∧ t'.list = K ∧ (∀ g ∈ t'.blocks, g ∈ t.blocks ∨ W.heap.size ≤ g) ∧ Chg (s :: b :: t.blocks) W w'
theorem Left.same {W w' : World} {s b : Nat} {t : TR} (h : SetIn W s b t) (hb : Below W.heap.size W w') : Left W s b t t.list w' :=
  ⟨t, h.below hb h.lt, rfl, fun _ hg => .inl hg, Chg.of_below hb⟩

theorem add_no (W : World) (s b : Nat) (t : TR) (m : Mk) (h : SetIn W s b t) (hn : addN t.list m ≠ 0) : Calls Try.prog 12 #[.pointer (some ⟨s, 0, none⟩), .agg #[.int .i64 m.id, .int .i64 m.fr, .int .i64 m.to, .int .i64 m.pr]] W fun e w' => e = .returned (.int .i64 (addN t.list m)) ∧ Below W.heap.size W w' := by
  have hs : s < W.heap.size := h.lt s (by simp)
  obtain ⟨c0, c1⟩ := h.cells
  have HS : Hid (∀ o, SetIn (W.alloc o) s b t) := fun o => h.below ((Below.refl _ _).alloc (Nat.le_refl _) o) h.lt
  have HL : Hid (∀ w', Below W.heap.size W w' → ∀ ty, (Builtin.len_ #[53] ty #[.map (some b)]).run Try.prog w' = .ok (.int .i64 t.list.length) w') := fun w' hb ty => (h.below hb h.lt).map.len ty
  clear h
  by_cases h1 : mayB m.fr m.to = false
  · have Hv : Hid (mayB m.fr m.to = false) := h1
    have hN : addN t.list m = 2 := by simp [addN, h1]
    rw [hN]
    clear hN hn h1
    go_enter Try.func12, Try.ntmps12
    go_wp2_with (go_at_call 25; (with_reducible refine (may_v m.fr m.to false Hv _).mono ?_); rintro e w' ⟨rfl, rfl⟩)
    go_ret
    refine ⟨rfl, ?_⟩
    repeat (first | exact Below.refl _ _ | refine below_drewN ?_ _ | refine Below.drew ?_ | refine Below.alloc ?_ (by first | omega | (simp <;> omega)) _)
  · have h1 : mayB m.fr m.to = true := by simpa using h1
    have Hv : Hid (mayB m.fr m.to = true) := h1
    by_cases h2 : hasB t.list m.id = true
    · have Hv2 : Hid (hasB t.list m.id = true) := h2
      have hN : addN t.list m = 1 := by simp [addN, h1, h2]
      rw [hN]
      clear hN hn h1 h2
      go_enter Try.func12, Try.ntmps12
      go_wp2_with (first | (go_at_call 25; (with_reducible refine (may_v m.fr m.to true Hv _).mono ?_); rintro e w' ⟨rfl, rfl⟩) | (go_at_call 26; (with_reducible refine (has_v _ s b t m.id true Hv2 (HS.out _)).mono ?_); rintro e w1 ⟨rfl, hb1⟩))
      go_ret
      exact ⟨rfl, ((Below.refl _ _).alloc (Nat.le_refl _) _).trans (hb1.mono (by simp))⟩
    · have h2 : hasB t.list m.id = false := by simpa using h2
      have Hv2 : Hid (hasB t.list m.id = false) := h2
      have h3 : 600 ≤ t.list.length := by
        simp only [addN, h1, h2] at hn
        by_cases h3 : 600 ≤ t.list.length
        · exact h3
        · simp [h3] at hn
      have hN : addN t.list m = 3 := by simp [addN, h1, h2, h3]
      rw [hN]
      have h3' : decide ((t.list.length : Int) ≥ 600) = true := by simp; omega
      clear hN hn h1 h2
      go_enter Try.func12, Try.ntmps12
      go_wp2_with (first | (go_at_call 25; (with_reducible refine (may_v m.fr m.to true Hv _).mono ?_); rintro e w' ⟨rfl, rfl⟩) | (go_at_call 26; (with_reducible refine (has_v _ s b t m.id false Hv2 (HS.out _)).mono ?_); rintro e w1 ⟨rfl, hb1⟩; have hcl1 := cells_of hb1; have HB1 : Below W.heap.size W w1 := ((Below.refl _ _).alloc (Nat.le_refl _) _).trans (hb1.mono (by simp)); have hlen := HL.out w1 HB1; clear hb1))
      go_ret
      exact ⟨rfl, HB1⟩
end Go.Proofs.Ytkibhinpbpgkeaa
