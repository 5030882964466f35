/- The walk of Splice: what is refused. -/
import Derived.Test.YtpfceochplghlaaN
namespace Go.Proofs.Ytpfceochplghlaa
open Go.RowKit
attribute [local go_sem ↓] Go.wp_at_zero Go.wp_at_succ

/-- Does a splice fit in? -/
def roomB (l k n1 m : Nat) : Bool := decide (l - k + m ≤ 1000 ∧ n1 + m ≤ 20000)
theorem splice_none (W : World) (a k : Int) (A : Option Addr) (m c : Nat) : Calls Try.prog 12 #[.pointer none, .int .i64 a, .int .i64 k, .slice A m c] W fun e w' => e = .returned (.int .i64 8) ∧ W = w' := by
  go_enter Try.func12, Try.ntmps12
  go_wp2
  go_ret
  exact ⟨rfl, rfl⟩
theorem splice_arg (W : World) (t : Nat) (F : List Nat) (T : Tb) (a k : Int) (A : Option Addr) (m c : Nat) (h : TabIn W t F T) (h0 : Hid (thereB (plen T.ps) a k = false)) : Calls Try.prog 12 #[.pointer (some ⟨t, 0, none⟩), .int .i64 a, .int .i64 k, .slice A m c] W fun e w' => e = .returned (.int .i64 2) ∧ W = w' := by
  have H := Lib.hid h
  clear h
  go_enter Try.func12, Try.ntmps12
  go_wp2_with (go_at_call 34; (with_reducible refine (there_any W t F T a k false h0 H.out).mono ?_); rintro e w' ⟨rfl, rfl⟩)
  go_ret
  exact ⟨rfl, rfl⟩
theorem splice_form (W : World) (t : Nat) (F : List Nat) (T : Tb) (a k : Int) (A : Option Addr) (m c B : Nat) (zs : List Int) (h : TabIn W t F T) (h0 : Hid (thereB (plen T.ps) a k = true)) (h1 : Hid (mayB zs = false)) (hr : Rds W B 1 A m (zs.map (Value.int .i32))) (hm : m ≤ 9223372036854775807) :
    Calls Try.prog 12 #[.pointer (some ⟨t, 0, none⟩), .int .i64 a, .int .i64 k, .slice A m c] W fun e w' => e = .returned (.int .i64 1) ∧ W = w' := by
  have H := Lib.hid h
  have HR := Lib.hid hr
  clear h hr
  go_enter Try.func12, Try.ntmps12
  go_wp2_with (first | (go_at_call 34; (with_reducible refine (there_any W t F T a k true h0 H.out).mono ?_); rintro e w' ⟨rfl, rfl⟩) | (go_at_call 32; (with_reducible refine (may_any A m c B zs false h1 W HR.out hm).mono ?_); rintro e w' ⟨rfl, rfl⟩))
  go_ret
  exact ⟨rfl, rfl⟩
theorem splice_full (W : World) (t : Nat) (F : List Nat) (T : Tb) (a k : Nat) (A : Option Addr) (m c B : Nat) (zs : List Int) (h : TabIn W t F T) (h0 : Hid (thereB (plen T.ps) a k = true)) (h1 : Hid (mayB zs = true)) (h2 : roomB (plen T.ps) k T.add.length m = false) (hk : k ≤ plen T.ps) (hr : Rds W B 1 A m (zs.map (Value.int .i32))) (hm : m ≤ 9223372036854775807) :
    Calls Try.prog 12 #[.pointer (some ⟨t, 0, none⟩), .int .i64 a, .int .i64 k, .slice A m c] W fun e w' => e = .returned (.int .i64 3) ∧ W = w' := by
  have H := Lib.hid h
  have HR := Lib.hid hr
  have hok := h.ok
  have hl := hok.len
  have had := hok.add
  obtain ⟨A0, n0, c0, A1, n1, c1, A2, n2, c2, hat, rfl, _⟩ := h
  obtain ⟨z0, z1, z2, z3⟩ := hat.cells
  have hn1 := hat.lens.2.1
  rw [hn1] at h2 had
  obtain ⟨l, hll⟩ : ∃ l, plen T.ps = l := ⟨_, rfl⟩
  rw [hll] at z3 hl h2 hk
  simp only [roomB, decide_eq_false_iff_not] at h2
  have hw1 : IntKind.i64.wrap ((l : Int) - k) = ((l - k : Nat) : Int) := by rw [show (l : Int) - k = ((l - k : Nat) : Int) from by omega]; exact IntWalk.i64_in _ (by omega)
  obtain ⟨d, hd⟩ : ∃ d, l - k = d := ⟨_, rfl⟩
  rw [hd] at hw1 h2
  have hw2 : IntKind.i64.wrap (1000 - (d : Int)) = 1000 - (d : Int) := IntWalk.i64_in _ (by omega)
  have hw3 : IntKind.i64.wrap (20000 - (n1 : Int)) = 20000 - (n1 : Int) := IntWalk.i64_in _ (by omega)
  clear hr hok hat hn1 hll z0 z2 hd
  by_cases hf : 1000 - (d : Int) < (m : Int)
  · clear h2
    go_enter Try.func12, Try.ntmps12
    go_wp2_with (first | (go_at_call 34; (with_reducible refine (there_any W t _ T a k true h0 H.out).mono ?_); rintro e w' ⟨rfl, rfl⟩) | (go_at_call 32; (with_reducible refine (may_any A m c B zs true h1 W HR.out hm).mono ?_); rintro e w' ⟨rfl, rfl⟩))
    go_ret
    exact ⟨rfl, rfl⟩
  · have hg : 20000 - (n1 : Int) < (m : Int) := by omega
    clear h2
    go_enter Try.func12, Try.ntmps12
    go_wp2_with (first | (go_at_call 34; (with_reducible refine (there_any W t _ T a k true h0 H.out).mono ?_); rintro e w' ⟨rfl, rfl⟩) | (go_at_call 32; (with_reducible refine (may_any A m c B zs true h1 W HR.out hm).mono ?_); rintro e w' ⟨rfl, rfl⟩))
    go_ret
    exact ⟨rfl, rfl⟩
theorem splice_zero (W : World) (t : Nat) (F : List Nat) (T : Tb) (a : Nat) (A : Option Addr) (c : Nat) (h : TabIn W t F T) (ha : a ≤ plen T.ps) :
    Calls Try.prog 12 #[.pointer (some ⟨t, 0, none⟩), .int .i64 a, .int .i64 0, .slice A 0 c] W fun e w' => e = .returned (.int .i64 0) ∧ W = w' := by
  have H := Lib.hid h
  have hok := h.ok
  have hl := hok.len
  have had := hok.add
  obtain ⟨A0, n0, c0, A1, n1, c1, A2, n2, c2, hat, rfl, _⟩ := h
  obtain ⟨z0, z1, z2, z3⟩ := hat.cells
  have hn1 := hat.lens.2.1
  rw [hn1] at had
  have h0 : Hid (thereB (plen T.ps) a 0 = true) := by simp only [Hid, thereB, decide_eq_true_eq]; omega
  have h1 : Hid (mayB [] = true) := rfl
  have HR : Hid (Rds W 0 1 A 0 (([] : List Int).map (Value.int .i32))) := Rds.nil _ _ _ _
  obtain ⟨l, hll⟩ : ∃ l, plen T.ps = l := ⟨_, rfl⟩
  rw [hll] at z3 hl
  have hw1 : IntKind.i64.wrap (l : Int) = (l : Int) := IntWalk.i64_in _ (by omega)
  have hw2 : IntKind.i64.wrap (1000 - (l : Int)) = 1000 - (l : Int) := IntWalk.i64_in _ (by omega)
  have hw3 : IntKind.i64.wrap (20000 - (n1 : Int)) = 20000 - (n1 : Int) := IntWalk.i64_in _ (by omega)
  have hf : ¬ 1000 - (l : Int) < 0 := by omega
  have hg : ¬ 20000 - (n1 : Int) < 0 := by omega
  clear hok hat hn1 hll z0 z2 ha
  go_enter Try.func12, Try.ntmps12
  go_wp2_with (first | (go_at_call 34; (with_reducible refine (there_any W t _ T a 0 true h0 H.out).mono ?_); rintro e w' ⟨rfl, rfl⟩) | (go_at_call 32; (with_reducible refine (may_any A 0 c 0 [] true h1 W HR.out (by omega)).mono ?_); rintro e w' ⟨rfl, rfl⟩))
  go_ret
  exact ⟨rfl, rfl⟩
end Go.Proofs.Ytpfceochplghlaa
