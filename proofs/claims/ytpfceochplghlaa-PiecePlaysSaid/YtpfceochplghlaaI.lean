/- The walks of is, Sign, May. -/
import Derived.Test.YtpfceochplghlaaE
namespace Go.Proofs.Ytpfceochplghlaa
open Go.RowKit

/-- Is a number a sign? -/
def sgB (z : Int) : Bool := decide (0 ≤ z ∧ z ≤ 1114111 ∧ (z < 55296 ∨ 57343 < z))
def mayB (zs : List Int) : Bool := zs.all sgB
theorem ret_bool {a b : Bool} (h : a = b) : Ending.returned (.bool a) = .returned (.bool b) := by rw [h]
theorem ret_int {k : IntKind} {a b : Int} (h : a = b) : Ending.returned (.int k a) = .returned (.int k b) := by rw [h]
theorem is_any (z : Int) (w : World) : Calls Try.prog 51 #[.int .i32 z] w fun e w' => e = .returned (.bool (sgB z)) ∧ w = w' := by
  go_enter Try.func51, Try.ntmps51
  go_wp2
  all_goals
    go_ret
    exact ⟨ret_bool (by rw [Bool.eq_iff_iff]; simp [sgB]; try omega), rfl⟩
theorem sign_any (z : Int) (w : World) : Calls Try.prog 9 #[.int .i32 z] w fun e w' => e = .returned (.bool (sgB z)) ∧ w = w' := by
  go_enter Try.func9, Try.ntmps9
  go_wp2
  all_goals
    go_ret
    exact ⟨ret_bool (by rw [Bool.eq_iff_iff]; simp [sgB]; try omega), rfl⟩
theorem is_v (z : Int) (v : Bool) (hv : Hid (sgB z = v)) (w : World) : Calls Try.prog 51 #[.int .i32 z] w fun e w' => e = .returned (.bool v) ∧ w = w' := by
  have h := hv.out; subst h; exact is_any z w
theorem sign_v (z : Int) (v : Bool) (hv : Hid (sgB z = v)) (w : World) : Calls Try.prog 9 #[.int .i32 z] w fun e w' => e = .returned (.bool v) ∧ w = w' := by
  have h := hv.out; subst h; exact sign_any z w
theorem not_v (z : Int) (v : Bool) (hv : Hid (sgB z = v)) (w : World) : Calls Try.prog 50 #[.int .i32 z] w fun e w' => e = .returned (.bool (!v)) ∧ w = w' := by
  go_enter Try.func50, Try.ntmps50
  go_wp2_with (go_at_call 51; (with_reducible refine (is_v z v hv _).mono ?_); rintro e w' ⟨rfl, rfl⟩)
  go_ret
  exact ⟨rfl, rfl⟩
theorem take_all {zs : List Int} {k : Nat} (hk : k < zs.length) : mayB (zs.take (k + 1)) = (mayB (zs.take k) && sgB (zs.getD k 0)) := by
  unfold mayB
  rw [List.take_succ_eq_append_getElem hk, List.all_append]
  have e : zs.getD k 0 = zs[k] := by simp [List.getD, hk]
  rw [e]
  simp only [List.all_cons, List.all_nil, Bool.and_true]
theorem all_not {zs : List Int} {k : Nat} (hk : k < zs.length) (h : sgB (zs.getD k 0) = false) : mayB zs = false := by
  rw [mayB, List.all_eq_false]
  refine ⟨zs[k], List.getElem_mem hk, ?_⟩
  simp [List.getD, hk] at h
  simp [h]
set_option maxHeartbeats 400000 in
theorem rmay_any (A : Option Addr) (n c B : Nat) (zs : List Int) (w : World) (hr : Rds w B 1 A n (zs.map (Value.int .i32))) (hn : n ≤ 9223372036854775807) :
    Calls Try.prog 39 #[.slice A n c] w fun e w' => e = .returned (.bool (mayB zs)) ∧ w = w' := by
  have lx := hr.int_len
  have HL := Lib.hid lx
  have HR := Lib.hid hr
  clear hr lx
  go_enter Try.func39, Try.ntmps39
  go_wp2
  go_loop [3] (fun i => ∃ k : Nat, k ≤ n ∧ i = .int .i64 k ∧ Hid (mayB (zs.take k) = true)) (fun i => n - (intOf i).toNat)
  case atStart => exact ⟨0, Nat.zero_le _, rfl, rfl⟩
  case round =>
    obtain ⟨k, hk, rfl, Hk⟩ := hrel
    by_cases hlt : k < n
    · obtain ⟨ad, x, rfl, _, hcx, Hx⟩ := HR.out.int_at hlt
      by_cases hs : sgB x = true
      · have HS := Lib.hid hs
        have HN : Hid (mayB (zs.take (k + 1)) = true) := by rw [Hid, take_all (by rw [HL.out]; exact hlt), ← Hx.out, Hk.out, hs]; rfl
        clear hs
        go_wp2_with (go_at_call 9; (with_reducible refine (sign_v x true HS _).mono ?_); rintro e w' ⟨rfl, rfl⟩)
        go_round
        case rel => exact ⟨k + 1, by omega, by go_num, HN⟩
        case measure => simp [intOf]; omega
      · have hs' : sgB x = false := by simpa using hs
        have HS := Lib.hid hs'
        have HF : Hid (mayB zs = false) := all_not (by rw [HL.out]; exact hlt) (by rw [← Hx.out]; exact hs')
        clear hs hs'
        go_wp2_with (go_at_call 9; (with_reducible refine (sign_v x false HS _).mono ?_); rintro e w' ⟨rfl, rfl⟩)
        go_ret
        exact ⟨ret_bool HF.out.symm, rfl⟩
    · have HF : Hid (mayB zs = true) := by have h := Hk.out; rwa [List.take_of_length_le (by have := HL.out; omega)] at h
      go_wp2
      go_ret
      exact ⟨ret_bool HF.out.symm, rfl⟩
set_option maxHeartbeats 400000 in
theorem index_r (A : Option Addr) (n c B : Nat) (zs : List Int) (w : World) (hr : Rds w B 1 A n (zs.map (Value.int .i32))) (hn : n ≤ 9223372036854775807) :
    Calls Try.prog 54 #[.slice A n c, .func (.func 50) #[] #[]] w fun e w' => (∃ v : Int, e = .returned (.int .i64 v) ∧ Hid (decide (0 ≤ v) = !mayB zs)) ∧ w = w' := by
  have lx := hr.int_len
  have HL := Lib.hid lx
  have HR := Lib.hid hr
  clear hr lx
  go_enter Try.func54, Try.ntmps54
  go_wp2
  go_loop [8] (fun i => ∃ k : Nat, k ≤ n ∧ i = .int .i64 k ∧ Hid (mayB (zs.take k) = true)) (fun i => n - (intOf i).toNat)
  case atStart => exact ⟨0, Nat.zero_le _, rfl, rfl⟩
  case round =>
    obtain ⟨k, hk, rfl, Hk⟩ := hrel
    by_cases hlt : k < n
    · obtain ⟨ad, x, rfl, _, hcx, Hx⟩ := HR.out.int_at hlt
      by_cases hs : sgB x = true
      · have HS := Lib.hid hs
        have HN : Hid (mayB (zs.take (k + 1)) = true) := by rw [Hid, take_all (by rw [HL.out]; exact hlt), ← Hx.out, Hk.out, hs]; rfl
        clear hs
        go_wp2_with (go_at_call 50; (with_reducible refine (not_v x true HS _).mono ?_); rintro e w' ⟨rfl, rfl⟩)
        go_round
        case rel => exact ⟨k + 1, by omega, by go_num, HN⟩
        case measure => simp [intOf]; omega
      · have hs' : sgB x = false := by simpa using hs
        have HS := Lib.hid hs'
        have HF : Hid (mayB zs = false) := all_not (by rw [HL.out]; exact hlt) (by rw [← Hx.out]; exact hs')
        clear hs hs'
        go_wp2_with (go_at_call 50; (with_reducible refine (not_v x false HS _).mono ?_); rintro e w' ⟨rfl, rfl⟩)
        go_ret
        exact ⟨⟨k, rfl, by rw [Hid, HF.out]; simp⟩, rfl⟩
    · have HF : Hid (mayB zs = true) := by have h := Hk.out; rwa [List.take_of_length_le (by have := HL.out; omega)] at h
      go_wp2
      go_ret
      exact ⟨⟨-1, rfl, by rw [Hid, HF.out]; rfl⟩, rfl⟩
theorem contains_r (A : Option Addr) (n c B : Nat) (zs : List Int) (w : World) (hr : Rds w B 1 A n (zs.map (Value.int .i32))) (hn : n ≤ 9223372036854775807) :
    Calls Try.prog 49 #[.slice A n c, .func (.func 50) #[] #[]] w fun e w' => e = .returned (.bool (!mayB zs)) ∧ w = w' := by
  have HR := Lib.hid hr
  clear hr
  go_enter Try.func49, Try.ntmps49
  go_wp2_with (go_at_call 54; (with_reducible refine (index_r A n c B zs _ HR.out hn).mono ?_); rintro e w' ⟨⟨v, rfl, HV⟩, rfl⟩)
  go_ret
  exact ⟨ret_bool (by rw [← HV.out]), rfl⟩
theorem may_any (A : Option Addr) (n c B : Nat) (zs : List Int) (v : Bool) (hv : Hid (mayB zs = v)) (w : World) (hr : Rds w B 1 A n (zs.map (Value.int .i32))) (hn : n ≤ 9223372036854775807) :
    Calls Try.prog 32 #[.slice A n c] w fun e w' => e = .returned (.bool v) ∧ w = w' := by
  have HR := Lib.hid hr
  rw [← hv.out]
  clear hr hv
  go_enter Try.func32, Try.ntmps32
  go_wp2_with (go_at_call 49; (with_reducible refine (contains_r A n c B zs _ HR.out hn).mono ?_); rintro e w' ⟨rfl, rfl⟩)
  go_ret
  exact ⟨by simp, rfl⟩
theorem rmay_v (A : Option Addr) (n c B : Nat) (zs : List Int) (v : Bool) (hv : Hid (mayB zs = v)) (w : World) (hr : Rds w B 1 A n (zs.map (Value.int .i32))) (hn : n ≤ 9223372036854775807) :
    Calls Try.prog 39 #[.slice A n c] w fun e w' => e = .returned (.bool v) ∧ w = w' := by
  have h := hv.out; subst h; exact rmay_any A n c B zs w hr hn
end Go.Proofs.Ytpfceochplghlaa
