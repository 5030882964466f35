/- The walk of NewTable. -/
import Derived.Test.YtpfceochplghlaaRa
namespace Go.Proofs.Ytpfceochplghlaa
open Go.RowKit
attribute [local go_sem ↓] Go.wp_at_zero Go.wp_at_succ

theorem rnew_form (W : World) (A : Option Addr) (m c B : Nat) (zs : List Int) (h1 : Hid (mayB zs = false)) (hr : Rds W B 1 A m (zs.map (Value.int .i32))) (hm : m ≤ 9223372036854775807) :
    Calls Try.prog 18 #[.slice A m c] W fun e w' => e = .returned (.tuple #[.pointer none, .int .i64 1]) ∧ W = w' := by
  have HR := Lib.hid hr
  clear hr
  go_enter Try.func18, Try.ntmps18
  go_wp2_with (go_at_call 39; (with_reducible refine (rmay_v A m c B zs false h1 W HR.out hm).mono ?_); rintro e w' ⟨rfl, rfl⟩)
  go_ret2
  exact ⟨rfl, rfl⟩
theorem rnew_full (W : World) (A : Option Addr) (m c B : Nat) (zs : List Int) (h1 : Hid (mayB zs = true)) (h2 : 1000 < m) (hr : Rds W B 1 A m (zs.map (Value.int .i32))) (hm : m ≤ 9223372036854775807) :
    Calls Try.prog 18 #[.slice A m c] W fun e w' => e = .returned (.tuple #[.pointer none, .int .i64 3]) ∧ W = w' := by
  have HR := Lib.hid hr
  have h2' : (1000 : Int) < (m : Int) := by omega
  clear hr
  go_enter Try.func18, Try.ntmps18
  go_wp2_with (go_at_call 39; (with_reducible refine (rmay_v A m c B zs true h1 W HR.out hm).mono ?_); rintro e w' ⟨rfl, rfl⟩)
  go_ret2
  exact ⟨rfl, rfl⟩
def RNewPost (W : World) (T : Tb) (e : Ending) (w' : World) : Prop :=
  ∃ r G, e = .returned (.tuple #[.pointer (some ⟨r, 0, none⟩), .int .i64 0]) ∧ RefIn w' r G T ∧ (∀ g ∈ G, W.heap.size ≤ g) ∧ Below W.heap.size W w'
set_option maxHeartbeats 1000000 in
theorem rnew_ok (W : World) (A : Option Addr) (m c : Nat) (zs : List Int) (h1 : Hid (mayB zs = true)) (h2 : m ≤ 1000) (hr : Rds W W.heap.size 1 A m (zs.map (Value.int .i32))) :
    Calls Try.prog 18 #[.slice A m c] W (RNewPost W (newTb zs)) := by
  obtain ⟨i0, hi0, hz0, hz1, hz2⟩ := info_parts info21
  have HR := Lib.hid hr
  have HZ := Lib.hid hr.int_len
  have h2' : ¬ (1000 : Int) < (m : Int) := by omega
  have hm1 : m ≤ 9223372036854775807 := by omega
  have HOK := Lib.hid (newTb_ok (zs := zs) (by have := HZ.out; omega))
  clear hr
  by_cases h0 : (0 : Int) < (m : Int)
  · go_enter Try.func18, Try.ntmps18
    go_upto_region 8 with (first
      | (go_at_call 39; (with_reducible refine (rmay_v A m c _ zs true h1 W HR.out hm1).mono ?_); rintro e w' ⟨rfl, rfl⟩)
      | (at_builtin; refine append_rds rfl (.const (.slice none 0 0)) (.tmp 11) 23 rfl W.heap.size 21 i0 _ 1 4 Try.underlying23 hi0 hz0 hz1 hz2 rfl (by omega) (.slice none 0 0) 0 [] rfl (World.ownsRow_nil _ _ _ _) W.heap.size A m c _ rfl HR.out (oneCell_ints _) (by simp only [maxLen]; omega) (by omega) (Nat.le_refl _) ?_; intro v1 w1 hown1 hg1 hat1; have HB1 : Hid (Below W.heap.size W w1) := (Below.refl _ _).grown hg1 (Nat.le_refl _) (by simp [Value.ownBlock]); rw [Nat.zero_add, List.nil_append] at hown1; clear hg1 hat1; obtain ⟨A1, c1, rfl, _, _⟩ := own_form hown1; have HO1 := Lib.hid hown1; clear hown1))
    go_wp2
    go_ret2
    have hsz := HB1.out.size
    have hfb := fresh_blk HO1.out
    have hnd : (newTb zs).ps = [⟨false, 0, m⟩] := by
      have := HZ.out
      unfold newTb
      simp only
      rw [if_neg (by omega), this]
    have hb2 : Below W.heap.size W (((w1.alloc (.cells #[.slice A1 m c1, .slice none 0 0, .slice (some ⟨w1.heap.size + 1, 0, none⟩) 1 1] 66 (0, 0))).alloc (.cells #[.bool false, .int .i64 0, .int .i64 m] 53 (0, 0)))) := (HB1.out.alloc hsz _).alloc (by simp; omega) _
    have hc : Chg [] w1 (((w1.alloc (.cells #[.slice A1 m c1, .slice none 0 0, .slice (some ⟨w1.heap.size + 1, 0, none⟩) 1 1] 66 (0, 0))).alloc (.cells #[.bool false, .int .i64 0, .int .i64 m] 53 (0, 0)))) := ((Chg.refl _ _).alloc _).alloc _
    have htop : (((w1.alloc (.cells #[.slice A1 m c1, .slice none 0 0, .slice (some ⟨w1.heap.size + 1, 0, none⟩) 1 1] 66 (0, 0))).alloc (.cells #[.bool false, .int .i64 0, .int .i64 m] 53 (0, 0)))).heap[w1.heap.size]? = some (.cells #[.slice A1 m c1, .slice none 0 0, .slice (some ⟨w1.heap.size + 1, 0, none⟩) 1 1] 66 (0, 0)) := (((Below.refl _ _).alloc (Nat.le_refl _) _).block _ (by simp)).trans (heap_alloc_new _ _)
    have hrow : (((w1.alloc (.cells #[.slice A1 m c1, .slice none 0 0, .slice (some ⟨w1.heap.size + 1, 0, none⟩) 1 1] 66 (0, 0))).alloc (.cells #[.bool false, .int .i64 0, .int .i64 m] 53 (0, 0)))).heap[w1.heap.size + 1]? = some (.cells #[.bool false, .int .i64 0, .int .i64 m] 53 (0, 0)) := by
      have h := heap_alloc_new (w1.alloc (.cells #[.slice A1 m c1, .slice none 0 0, .slice (some ⟨w1.heap.size + 1, 0, none⟩) 1 1] 66 (0, 0))) (.cells #[.bool false, .int .i64 0, .int .i64 m] 53 (0, 0))
      rwa [show (w1.alloc (.cells #[.slice A1 m c1, .slice none 0 0, .slice (some ⟨w1.heap.size + 1, 0, none⟩) 1 1] 66 (0, 0))).heap.size = w1.heap.size + 1 from by simp] at h
    refine ⟨w1.heap.size, w1.heap.size :: (blk A1 ++ blk none ++ blk (some ⟨w1.heap.size + 1, 0, none⟩)), rfl, ⟨A1, m, c1, none, 0, 0, some ⟨w1.heap.size + 1, 0, none⟩, 1, 1, ⟨htop, ?_, World.ownsRow_nil _ _ _ _, ?_, ?_⟩, rfl, HOK.out⟩, ?_, hb2⟩
    · exact own_keep (own_lower HO1.out (Nat.zero_le _)) hc fun g hg => by simp
    · rw [hnd]
      exact own_mk (cur := [.bool false, .int .i64 0, .int .i64 m]) (Nat.zero_le _) hrow rfl (Nat.le_refl _) (by simp [maxLen]) rfl
    · intro hm
      simp only [List.mem_append] at hm
      rcases hm with (h | h) | h
      · have := (hfb _ h).2; omega
      · simp [blk] at h
      · simp [blk] at h
    · intro g hg
      simp only [List.mem_cons, List.mem_append] at hg
      rcases hg with h | (h | h) | h
      · omega
      · exact (hfb g h).1
      · simp [blk] at h
      · simp [blk] at h; omega
  · go_enter Try.func18, Try.ntmps18
    go_upto_region 8 with (first
      | (go_at_call 39; (with_reducible refine (rmay_v A m c _ zs true h1 W HR.out hm1).mono ?_); rintro e w' ⟨rfl, rfl⟩)
      | (at_builtin; refine append_rds rfl (.const (.slice none 0 0)) (.tmp 11) 23 rfl W.heap.size 21 i0 _ 1 4 Try.underlying23 hi0 hz0 hz1 hz2 rfl (by omega) (.slice none 0 0) 0 [] rfl (World.ownsRow_nil _ _ _ _) W.heap.size A m c _ rfl HR.out (oneCell_ints _) (by simp only [maxLen]; omega) (by omega) (Nat.le_refl _) ?_; intro v1 w1 hown1 hg1 hat1; have HB1 : Hid (Below W.heap.size W w1) := (Below.refl _ _).grown hg1 (Nat.le_refl _) (by simp [Value.ownBlock]); rw [Nat.zero_add, List.nil_append] at hown1; clear hg1 hat1; obtain ⟨A1, c1, rfl, _, _⟩ := own_form hown1; have HO1 := Lib.hid hown1; clear hown1))
    go_wp2
    go_ret2
    have hsz := HB1.out.size
    have hfb := fresh_blk HO1.out
    have hnd : (newTb zs).ps = [] := by
      have := HZ.out
      unfold newTb
      simp only
      rw [if_pos (by omega)]
    have hc : Chg [] w1 (w1.alloc (.cells #[.slice A1 m c1, .slice none 0 0, .slice none 0 0] 66 (0, 0))) := (Chg.refl _ _).alloc _
    refine ⟨w1.heap.size, w1.heap.size :: (blk A1 ++ blk none ++ blk none), rfl, ⟨A1, m, c1, none, 0, 0, none, 0, 0, ⟨heap_alloc_new _ _, ?_, World.ownsRow_nil _ _ _ _, ?_, ?_⟩, rfl, HOK.out⟩, ?_, HB1.out.alloc hsz _⟩
    · exact own_keep (own_lower HO1.out (Nat.zero_le _)) hc fun g hg => by simp
    · rw [hnd]
      exact World.ownsRow_nil _ _ _ _
    · intro hm
      simp only [List.mem_append] at hm
      rcases hm with (h | h) | h
      · have := (hfb _ h).2; omega
      · simp [blk] at h
      · simp [blk] at h
    · intro g hg
      simp only [List.mem_cons, List.mem_append] at hg
      rcases hg with h | (h | h) | h
      · omega
      · exact (hfb g h).1
      · simp [blk] at h
      · simp [blk] at h
end Go.Proofs.Ytpfceochplghlaa
