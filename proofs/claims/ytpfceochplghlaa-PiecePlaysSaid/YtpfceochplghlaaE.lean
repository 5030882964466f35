/- Pieces in memory; the walks of Clone, Delete. -/
import Derived.Test.YtpfceochplghlaaC
import Derived.Test.YtpfceochplghlaaRw
import Derived.Deep.RegionHeld3
import Derived.Deep.DrawnRows
import Derived.Lib.SliceRun
namespace Go.Proofs.Ytpfceochplghlaa
open Go.RowKit
attribute [local go_sem ↓] Go.wp_at_zero Go.wp_at_succ

/-- A piece. -/
structure Pc where
  add : Bool
  fr : Nat
  ln : Nat
def pcs (L : List Pc) : List Value := L.flatMap fun p => [.bool p.add, .int .i64 p.fr, .int .i64 p.ln]
theorem pcs_append (A B : List Pc) : pcs (A ++ B) = pcs A ++ pcs B := by simp [pcs]
theorem pcs_cons (p : Pc) (L : List Pc) : pcs (p :: L) = [.bool p.add, .int .i64 p.fr, .int .i64 p.ln] ++ pcs L := rfl
theorem pcs_len (L : List Pc) : (pcs L).length = L.length * 3 := by
  induction L with
  | nil => rfl
  | cons p L ih =>
    rw [pcs_cons, List.length_append, ih]
    simp only [List.length_cons, List.length_nil]
    omega
theorem pcs_take (K : List Pc) (k : Nat) : (pcs K).take (k * 3) = pcs (K.take k) := by
  induction K generalizing k with
  | nil => simp [pcs]
  | cons m K ih =>
    cases k with
    | zero => simp [pcs]
    | succ k =>
      rw [List.take_succ_cons, pcs_cons, pcs_cons, ← ih k, show (k + 1) * 3 = k * 3 + 1 + 1 + 1 from by omega]
      simp only [List.cons_append, List.nil_append, List.take_succ_cons]
theorem pcs_drop (K : List Pc) (k : Nat) : (pcs K).drop (k * 3) = pcs (K.drop k) := by
  have h1 := pcs_append (K.take k) (K.drop k)
  rw [List.take_append_drop, ← pcs_take] at h1
  exact List.append_cancel_left ((List.take_append_drop (k * 3) (pcs K)).trans h1)
theorem pcs_one (L : List Pc) : ∀ u ∈ pcs L, u.oneCell' = true := by
  intro u hu
  simp only [pcs, List.mem_flatMap, List.mem_cons, List.not_mem_nil, or_false] at hu
  obtain ⟨p, _, rfl | rfl | rfl⟩ := hu <;> rfl
def pc0 : Pc := ⟨false, 0, 0⟩
theorem pcs_at (K : List Pc) : ∀ (k j : Nat), k < K.length → j < 3 → (pcs K)[k * 3 + j]? = [Value.bool (K.getD k pc0).add, Value.int .i64 (K.getD k pc0).fr, Value.int .i64 (K.getD k pc0).ln][j]? := by
  induction K with
  | nil => intro k j hk; simp at hk
  | cons p K ih =>
    intro k j hk hj
    cases k with
    | zero =>
      rw [pcs_cons, Nat.zero_mul, Nat.zero_add, List.getElem?_append_left (by simpa using hj)]
      rfl
    | succ k =>
      rw [pcs_cons, List.getElem?_append_right (by simp; omega), show (k + 1) * 3 + j - [Value.bool p.add, Value.int IntKind.i64 (p.fr : Int), Value.int IntKind.i64 (p.ln : Int)].length = k * 3 + j from by simp; omega]
      rw [ih k j (by simpa using hk) hj]
      rfl
theorem info53 : (Try.prog.info? 53).map (fun i => (i.zero, i.size, i.bytes)) = some (some (.agg #[.bool false, .int .i64 0, .int .i64 0]), 3, 24) := by kernel_rfl
theorem own_empty (w : World) (e : TypeId) (z : Nat) : (w.alloc (.cells #[] e)).ownsRow w.heap.size e z (.slice (some ⟨w.heap.size, 0, none⟩) 0 0) 0 [] :=
  ⟨by simp, .inr ⟨w.heap.size, 0, #[], rfl, Nat.le_refl _, heap_alloc_new w _, Nat.le_refl _, by simp [maxLen], by simp, by simp⟩⟩

set_option maxHeartbeats 400000 in
theorem clone_p (A : Option Addr) (n c : Nat) (L : List Pc) (w : World) (hr : Rds w w.heap.size 3 A n (pcs L)) (hn : n ≤ 1000000) :
    Calls Try.prog 46 #[.slice A n c] w fun e w' => ∃ v, e = .returned v ∧ w'.ownsRow w.heap.size 53 3 v n (pcs L) ∧ Below w.heap.size w w' := by
  obtain ⟨i0, hi0, hz0, hz1, hz2⟩ := info_parts info53
  cases A with
  | none =>
    have h0 : n = 0 := by
      rcases Nat.eq_zero_or_pos n with h | h
      · exact h
      · obtain ⟨ad, e, _⟩ := hr.at_all h (by omega); cases e
    subst h0
    have hl : pcs L = [] := List.eq_nil_of_length_eq_zero (by simpa using hr.1)
    rw [hl]
    have he : ∀ w : World, (binOp .eql 50 (.slice none 0 c) (.slice none 0 0)).run Try.prog w = .ok (.bool true) w := fun w => Go.Lib.run_eql_slice_nil w 50 53 none 0 c 0 0 Try.underlying50
    go_enter Try.func46, Try.ntmps46
    go_wp2
    go_ret
    exact ⟨_, rfl, World.ownsRow_nil _ _ _ _, Below.refl _ _⟩
  | some ad =>
    have hr' : Rds (w.alloc (.cells #[] 53 (0, 0))) (w.heap.size + 1) 3 (some ad) n (pcs L) := (hr.alloc (Nat.le_refl _) _).more (by omega)
    have he : ∀ w : World, (binOp .eql 50 (.slice (some ad) n c) (.slice none 0 0)).run Try.prog w = .ok (.bool false) w := fun w => Go.Lib.run_eql_slice_nil w 50 53 (some ad) n c 0 0 Try.underlying50
    go_enter Try.func46, Try.ntmps46
    go_wp2_with (at_builtin; refine append_rds rfl (.tmp 5) (.tmp 6) 50 rfl w.heap.size 53 i0 _ 3 24 Try.underlying50 hi0 hz0 hz1 hz2 rfl (by omega) (.slice (some ⟨w.heap.size, 0, none⟩) 0 0) 0 [] rfl (own_empty w 53 3) (w.heap.size + 1) (some ad) n c _ rfl hr' (pcs_one _) (by simp only [maxLen]; omega) (by omega) (by simp) ?_)
    intro v1 w1 hown1 hg1 hat1
    have hb1 : Below w.heap.size w w1 := Below.grown ((Below.refl _ _).alloc (Nat.le_refl _) _) hg1 (by simp) (by simp [Value.ownBlock])
    go_wp2
    go_ret
    exact ⟨v1, rfl, hown1, hb1⟩
set_option maxHeartbeats 400000 in
theorem clone_r (A : Option Addr) (n c : Nat) (zs : List Int) (w : World) (hr : Rds w w.heap.size 1 A n (zs.map (Value.int .i32))) (hn : n ≤ 1000000) :
    Calls Try.prog 33 #[.slice A n c] w fun e w' => ∃ v, e = .returned v ∧ w'.ownsRow w.heap.size 21 1 v n (zs.map (Value.int .i32)) ∧ Below w.heap.size w w' := by
  obtain ⟨i0, hi0, hz0, hz1, hz2⟩ := info_parts info21
  cases A with
  | none =>
    have h0 : n = 0 := by
      rcases Nat.eq_zero_or_pos n with h | h
      · exact h
      · obtain ⟨ad, e, _⟩ := hr.at_all h (by omega); cases e
    subst h0
    have hl : zs.map (Value.int .i32) = [] := List.eq_nil_of_length_eq_zero (by simpa using hr.1)
    rw [hl]
    have he : ∀ w : World, (binOp .eql 23 (.slice none 0 c) (.slice none 0 0)).run Try.prog w = .ok (.bool true) w := fun w => Go.Lib.run_eql_slice_nil w 23 21 none 0 c 0 0 Try.underlying23
    go_enter Try.func33, Try.ntmps33
    go_wp2
    go_ret
    exact ⟨_, rfl, World.ownsRow_nil _ _ _ _, Below.refl _ _⟩
  | some ad =>
    have hr' : Rds (w.alloc (.cells #[] 21 (0, 0))) (w.heap.size + 1) 1 (some ad) n (zs.map (Value.int .i32)) := (hr.alloc (Nat.le_refl _) _).more (by omega)
    have he : ∀ w : World, (binOp .eql 23 (.slice (some ad) n c) (.slice none 0 0)).run Try.prog w = .ok (.bool false) w := fun w => Go.Lib.run_eql_slice_nil w 23 21 (some ad) n c 0 0 Try.underlying23
    go_enter Try.func33, Try.ntmps33
    go_wp2_with (at_builtin; refine append_rds rfl (.tmp 5) (.tmp 6) 23 rfl w.heap.size 21 i0 _ 1 4 Try.underlying23 hi0 hz0 hz1 hz2 rfl (by omega) (.slice (some ⟨w.heap.size, 0, none⟩) 0 0) 0 [] rfl (own_empty w 21 1) (w.heap.size + 1) (some ad) n c _ rfl hr' (oneCell_ints _) (by simp only [maxLen]; omega) (by omega) (by simp) ?_)
    intro v1 w1 hown1 hg1 hat1
    have hb1 : Below w.heap.size w w1 := Below.grown ((Below.refl _ _).alloc (Nat.le_refl _) _) hg1 (by simp) (by simp [Value.ownBlock])
    go_wp2
    go_ret
    exact ⟨v1, rfl, hown1, hb1⟩
end Go.Proofs.Ytpfceochplghlaa
