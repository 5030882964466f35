/- The walk of New. -/
import Derived.Test.YtpfceochplghlaaQ
namespace Go.Proofs.Ytpfceochplghlaa
open Go.RowKit
attribute [local go_sem ↓] Go.wp_at_zero Go.wp_at_succ

def newTb (zs : List Int) : Tb := ⟨zs, [], if zs.length = 0 then [] else [⟨false, 0, zs.length⟩]⟩
theorem newTb_len (zs : List Int) : plen (newTb zs).ps = zs.length := by
  unfold newTb
  simp only
  split
  · rename_i h; rw [h]; rfl
  · simp [plen]
theorem newTb_ok {zs : List Int} (h : zs.length ≤ 1000) : (newTb zs).Ok := by
  have h1 : ∀ p ∈ (newTb zs).ps, p = ⟨false, 0, zs.length⟩ ∧ 0 < zs.length := by
    intro p hp
    unfold newTb at hp
    simp only at hp
    split at hp
    · simp at hp
    · simp at hp; exact ⟨hp, by omega⟩
  refine ⟨fun p hp => ?_, fun p hp => ?_, by rw [newTb_len]; exact h, h, by simp [newTb]⟩
  · obtain ⟨rfl, h2⟩ := h1 p hp; exact h2
  · obtain ⟨rfl, h2⟩ := h1 p hp
    show 0 + zs.length ≤ zs.length
    omega
theorem new_form (W : World) (A : Option Addr) (m c B : Nat) (zs : List Int) (h1 : Hid (mayB zs = false)) (hr : Rds W B 1 A m (zs.map (Value.int .i32))) (hm : m ≤ 9223372036854775807) :
    Calls Try.prog 10 #[.slice A m c] W fun e w' => e = .returned (.tuple #[.pointer none, .int .i64 1]) ∧ W = w' := by
  have HR := Lib.hid hr
  clear hr
  go_enter Try.func10, Try.ntmps10
  go_wp2_with (go_at_call 32; (with_reducible refine (may_any A m c B zs false h1 W HR.out hm).mono ?_); rintro e w' ⟨rfl, rfl⟩)
  go_ret2
  exact ⟨rfl, rfl⟩
theorem new_full (W : World) (A : Option Addr) (m c B : Nat) (zs : List Int) (h1 : Hid (mayB zs = true)) (h2 : 1000 < m) (hr : Rds W B 1 A m (zs.map (Value.int .i32))) (hm : m ≤ 9223372036854775807) :
    Calls Try.prog 10 #[.slice A m c] W fun e w' => e = .returned (.tuple #[.pointer none, .int .i64 3]) ∧ W = w' := by
  have HR := Lib.hid hr
  have h2' : (1000 : Int) < (m : Int) := by omega
  clear hr
  go_enter Try.func10, Try.ntmps10
  go_wp2_with (go_at_call 32; (with_reducible refine (may_any A m c B zs true h1 W HR.out hm).mono ?_); rintro e w' ⟨rfl, rfl⟩)
  go_ret2
  exact ⟨rfl, rfl⟩
/-- A table made of a text. -/
def NewPost (W : World) (T : Tb) (e : Ending) (w' : World) : Prop :=
  ∃ t F, e = .returned (.tuple #[.pointer (some ⟨t, 0, none⟩), .int .i64 0]) ∧ TabIn w' t F T ∧ (∀ g ∈ F, W.heap.size ≤ g) ∧ Below W.heap.size W w'
theorem fresh_blk {w : World} {base z n c : Nat} {e : TypeId} {A : Option Addr} {xs : List Value} (h : w.ownsRow base e z (.slice A n c) n xs) : ∀ g ∈ blk A, base ≤ g ∧ g < w.heap.size := fun g hg => ⟨blk_ge h (Nat.le_refl _) g hg, blk_lt h g hg⟩
set_option maxHeartbeats 400000 in
theorem new_ok (W : World) (A : Option Addr) (m c : Nat) (zs : List Int) (h1 : Hid (mayB zs = true)) (h2 : m ≤ 1000) (hr : Rds W W.heap.size 1 A m (zs.map (Value.int .i32))) :
    Calls Try.prog 10 #[.slice A m c] W (NewPost W (newTb zs)) := by
  have HR := Lib.hid hr
  have HZ := Lib.hid hr.int_len
  have h2' : ¬ (1000 : Int) < (m : Int) := by omega
  have hm1 : m ≤ 9223372036854775807 := by omega
  have hm2 : m ≤ 1000000 := by omega
  have HOK := Lib.hid (newTb_ok (zs := zs) (by have := HZ.out; omega))
  clear hr
  by_cases h0 : (0 : Int) < (m : Int)
  · go_enter Try.func10, Try.ntmps10
    go_wp2_with (first
      | (go_at_call 32; (with_reducible refine (may_any A m c _ zs true h1 W HR.out hm1).mono ?_); rintro e w' ⟨rfl, rfl⟩)
      | (go_at_call 33; (with_reducible refine (clone_r A m c zs W HR.out hm2).mono ?_); rintro e w1 ⟨v1, rfl, hown1, hb1⟩; obtain ⟨A1, c1, rfl, _, _⟩ := own_form hown1; have HO1 := Lib.hid hown1; have HB1 := Lib.hid hb1; clear hown1 hb1))
    go_ret2
    have hsz := HB1.out.size
    have hfb := fresh_blk HO1.out
    have hnd : (newTb zs).ps = [⟨false, 0, m⟩] := by
      have := HZ.out
      unfold newTb
      simp only
      rw [if_neg (by omega), this]
    have hb2 : Below W.heap.size W (((w1.alloc (.cells #[.slice A1 m c1, .slice none 0 0, .slice (some ⟨w1.heap.size + 1, 0, none⟩) 1 1, .int .i64 m] 59 (0, 0))).alloc (.cells #[.bool false, .int .i64 0, .int .i64 m] 53 (0, 0)))) := (HB1.out.alloc hsz _).alloc (by simp; omega) _
    have hc : Chg [] w1 ((((w1.alloc (.cells #[.slice A1 m c1, .slice none 0 0, .slice (some ⟨w1.heap.size + 1, 0, none⟩) 1 1, .int .i64 m] 59 (0, 0))).alloc (.cells #[.bool false, .int .i64 0, .int .i64 m] 53 (0, 0))))) := ((Chg.refl _ _).alloc _).alloc _
    have htop : (((w1.alloc (.cells #[.slice A1 m c1, .slice none 0 0, .slice (some ⟨w1.heap.size + 1, 0, none⟩) 1 1, .int .i64 m] 59 (0, 0))).alloc (.cells #[.bool false, .int .i64 0, .int .i64 m] 53 (0, 0)))).heap[w1.heap.size]? = some (.cells #[.slice A1 m c1, .slice none 0 0, .slice (some ⟨w1.heap.size + 1, 0, none⟩) 1 1, .int .i64 m] 59 (0, 0)) := (((Below.refl _ _).alloc (Nat.le_refl _) _).block _ (by simp)).trans (heap_alloc_new _ _)
    have hrow : (((w1.alloc (.cells #[.slice A1 m c1, .slice none 0 0, .slice (some ⟨w1.heap.size + 1, 0, none⟩) 1 1, .int .i64 m] 59 (0, 0))).alloc (.cells #[.bool false, .int .i64 0, .int .i64 m] 53 (0, 0)))).heap[w1.heap.size + 1]? = some (.cells #[.bool false, .int .i64 0, .int .i64 m] 53 (0, 0)) := by
      have h := heap_alloc_new (w1.alloc (.cells #[.slice A1 m c1, .slice none 0 0, .slice (some ⟨w1.heap.size + 1, 0, none⟩) 1 1, .int .i64 m] 59 (0, 0))) (.cells #[.bool false, .int .i64 0, .int .i64 m] 53 (0, 0))
      rwa [show (w1.alloc (.cells #[.slice A1 m c1, .slice none 0 0, .slice (some ⟨w1.heap.size + 1, 0, none⟩) 1 1, .int .i64 m] 59 (0, 0))).heap.size = w1.heap.size + 1 from by simp] at h
    refine ⟨w1.heap.size, w1.heap.size :: (blk A1 ++ blk none ++ blk (some ⟨w1.heap.size + 1, 0, none⟩)), rfl, ⟨A1, m, c1, none, 0, 0, some ⟨w1.heap.size + 1, 0, none⟩, 1, 1, ⟨?_, ?_, ?_, ?_, ?_⟩, rfl, HOK.out⟩, ?_, hb2⟩
    · rw [newTb_len, HZ.out]
      exact htop
    · exact own_keep (own_lower HO1.out (Nat.zero_le _)) hc fun g hg => by simp
    · exact World.ownsRow_nil _ _ _ _
    · rw [hnd]
      exact own_mk (cur := [.bool false, .int .i64 0, .int .i64 m]) (Nat.zero_le _) hrow rfl (Nat.le_refl _) (by simp [maxLen]) rfl
    · cases A1 with
      | none => simp [blk]
      | some a => have := hfb a.block (by simp [blk]); simp [blk]; omega
    · intro g hg
      simp only [List.mem_cons, List.mem_append] at hg
      rcases hg with h | (h | h) | h
      · omega
      · exact (hfb g h).1
      · simp [blk] at h
      · simp [blk] at h; omega
  · go_enter Try.func10, Try.ntmps10
    go_wp2_with (first
      | (go_at_call 32; (with_reducible refine (may_any A m c _ zs true h1 W HR.out hm1).mono ?_); rintro e w' ⟨rfl, rfl⟩)
      | (go_at_call 33; (with_reducible refine (clone_r A m c zs W HR.out hm2).mono ?_); rintro e w1 ⟨v1, rfl, hown1, hb1⟩; obtain ⟨A1, c1, rfl, _, _⟩ := own_form hown1; have HO1 := Lib.hid hown1; have HB1 := Lib.hid hb1; clear hown1 hb1))
    go_ret2
    have hsz := HB1.out.size
    have hfb := fresh_blk HO1.out
    have hnd : (newTb zs).ps = [] := by
      have := HZ.out
      unfold newTb
      simp only
      rw [if_pos (by omega)]
    have hc : Chg [] w1 (w1.alloc (.cells #[.slice A1 m c1, .slice none 0 0, .slice none 0 0, .int .i64 m] 59 (0, 0))) := (Chg.refl _ _).alloc _
    refine ⟨w1.heap.size, w1.heap.size :: (blk A1 ++ blk none ++ blk none), rfl, ⟨A1, m, c1, none, 0, 0, none, 0, 0, ⟨?_, ?_, ?_, ?_, ?_⟩, rfl, HOK.out⟩, ?_, HB1.out.alloc hsz _⟩
    · rw [newTb_len, HZ.out]
      exact heap_alloc_new _ _
    · exact own_keep (own_lower HO1.out (Nat.zero_le _)) hc fun g hg => by simp
    · exact World.ownsRow_nil _ _ _ _
    · rw [hnd]
      exact World.ownsRow_nil _ _ _ _
    · cases A1 with
      | none => simp [blk]
      | some a => have := hfb a.block (by simp [blk]); simp [blk]; omega
    · intro g hg
      simp only [List.mem_cons, List.mem_append] at hg
      rcases hg with h | (h | h) | h
      · omega
      · exact (hfb g h).1
      · simp [blk] at h
      · simp [blk] at h
end Go.Proofs.Ytpfceochplghlaa
