/- The walk of Copied. -/
import Derived.Test.YtpfceochplghlaaYc
import Derived.Test.YtpfceochplghlaaD
namespace Go.Proofs.Ytpfceochplghlaa
open Go.RowKit
attribute [local go_sem ↓] Go.wp_at_zero Go.wp_at_succ

/-- A copy of signs. -/
def CpAt (N : Nat) (w : World) (A : Option Addr) (n c : Nat) (zs : List Int) : Prop := w.ownsRow N 21 1 (.slice A n c) n (zs.map (Value.int .i32))

theorem set3_keep (w : World) (b : Nat) (v0 v1 v2 : Value) (x0 x1 x2 : Option Value) (h : w.cell? ⟨b, 0, none⟩ = x0 ∧ w.cell? ⟨b, 1, none⟩ = x1 ∧ w.cell? ⟨b, 2, none⟩ = x2) :
    (((w.setCell ⟨b + 1, 0, none⟩ v0).setCell ⟨b + 1, 1, none⟩ v1).setCell ⟨b + 1, 2, none⟩ v2).cell? ⟨b, 0, none⟩ = x0 ∧ (((w.setCell ⟨b + 1, 0, none⟩ v0).setCell ⟨b + 1, 1, none⟩ v1).setCell ⟨b + 1, 2, none⟩ v2).cell? ⟨b, 1, none⟩ = x1 ∧ (((w.setCell ⟨b + 1, 0, none⟩ v0).setCell ⟨b + 1, 1, none⟩ v1).setCell ⟨b + 1, 2, none⟩ v2).cell? ⟨b, 2, none⟩ = x2 := by
  have k : ∀ (w : World) (j o : Nat) (v : Value), (w.setCell ⟨b + 1, j, none⟩ v).cell? ⟨b, o, none⟩ = w.cell? ⟨b, o, none⟩ := fun w j o v => World.cell?_setCell_other w _ _ v (by simp)
  simp only [k]
  exact h

set_option maxHeartbeats 1000000 in
theorem copied_any (W : World) (a : Int) (A B : Option Addr) (n c m d : Nat) (zs ys : List Int) (hx : Rds W W.heap.size 1 A n (zs.map (Value.int .i32))) (hy : Rds W W.heap.size 1 B m (ys.map (Value.int .i32))) (hn : n ≤ 20000) (hm : m ≤ 20000) :
    Calls Try.prog 40 #[.agg #[.int .i64 a, .slice A n c, .slice B m d]] W fun e w' => ∃ A' c' B' d', e = .returned (.agg #[.int .i64 a, .slice A' n c', .slice B' m d']) ∧ CpAt W.heap.size w' A' n c' zs ∧ CpAt W.heap.size w' B' m d' ys ∧ Below W.heap.size W w' := by
  obtain ⟨i0, hi0, hz0, hz1, hz2⟩ := info_parts info21
  have HX : Hid (∀ w, Below W.heap.size W w → Rds w W.heap.size 1 A n (zs.map (Value.int .i32))) := fun w hb => hx.below hb
  have HY : Hid (∀ w, Below W.heap.size W w → Rds w W.heap.size 1 B m (ys.map (Value.int .i32))) := fun w hb => hy.below hb
  clear hx hy
  go_enter Try.func40, Try.ntmps40
  go_wp2
  have HB0 : Hid (Below W.heap.size W ((W.alloc (.cells #[.int .i64 a, .slice A n c, .slice B m d] 40 (0, 0))).alloc (.cells #[.int .i64 0, .slice none 0 0, .slice none 0 0] 40 (0, 0)))) := ((Below.refl _ _).alloc (Nat.le_refl _) _).alloc (by simp) _
  have HZ0 : Hid (((W.alloc (.cells #[.int .i64 a, .slice A n c, .slice B m d] 40 (0, 0))).alloc (.cells #[.int .i64 0, .slice none 0 0, .slice none 0 0] 40 (0, 0))).heap.size = W.heap.size + 2) := by show _ = _; simp
  have HC0 : Hid (((W.alloc (.cells #[.int .i64 a, .slice A n c, .slice B m d] 40 (0, 0))).alloc (.cells #[.int .i64 0, .slice none 0 0, .slice none 0 0] 40 (0, 0))).heap[W.heap.size]? = some (.cells #[.int .i64 a, .slice A n c, .slice B m d] 40 (0, 0))) := (((Below.refl _ _).alloc (Nat.le_refl _) _).block _ (by simp)).trans (heap_alloc_new _ _)
  have HK0 : Hid (((W.alloc (.cells #[.int .i64 a, .slice A n c, .slice B m d] 40 (0, 0))).alloc (.cells #[.int .i64 0, .slice none 0 0, .slice none 0 0] 40 (0, 0))).heap[W.heap.size + 1]? = some (.cells #[.int .i64 0, .slice none 0 0, .slice none 0 0] 40 (0, 0))) := by
    have h := heap_alloc_new (W.alloc (.cells #[.int .i64 a, .slice A n c, .slice B m d] 40 (0, 0))) (.cells #[.int .i64 0, .slice none 0 0, .slice none 0 0] 40 (0, 0))
    rw [show (W.alloc (.cells #[.int .i64 a, .slice A n c, .slice B m d] 40 (0, 0))).heap.size = W.heap.size + 1 from by simp] at h
    exact h
  generalize (W.alloc (.cells #[.int .i64 a, .slice A n c, .slice B m d] 40 (0, 0))).alloc (.cells #[.int .i64 0, .slice none 0 0, .slice none 0 0] 40 (0, 0)) = X at *
  have HS : Hid (∀ w, Below X.heap.size X w → w.cell? ⟨W.heap.size, 0, none⟩ = some (.int .i64 a) ∧ w.cell? ⟨W.heap.size, 1, none⟩ = some (.slice A n c) ∧ w.cell? ⟨W.heap.size, 2, none⟩ = some (.slice B m d)) := fun w hb => by
    have h := (hb.block W.heap.size (by have := HZ0.out; omega)).trans HC0.out
    exact ⟨cell_of_row w _ 0 _ _ _ h, cell_of_row w _ 1 _ _ _ h, cell_of_row w _ 2 _ _ _ h⟩
  have HT : Hid (∀ w, Below X.heap.size X w → W.heap.size + 1 < w.heap.size ∧ w.frozen? ⟨W.heap.size + 1, 0, none⟩ = false ∧ w.frozen? ⟨W.heap.size + 1, 1, none⟩ = false ∧ w.frozen? ⟨W.heap.size + 1, 2, none⟩ = false ∧ w.cell? ⟨W.heap.size + 1, 0, none⟩ = some (.int .i64 0) ∧ w.cell? ⟨W.heap.size + 1, 1, none⟩ = some (.slice none 0 0) ∧ w.cell? ⟨W.heap.size + 1, 2, none⟩ = some (.slice none 0 0)) := fun w hb => by
    have h := (hb.block (W.heap.size + 1) (by have := HZ0.out; omega)).trans HK0.out
    exact ⟨by have := HZ0.out; have := hb.size; omega, frozen_of_row w _ 0 _ _ h, frozen_of_row w _ 1 _ _ h, frozen_of_row w _ 2 _ _ h, cell_of_row w _ 0 _ _ _ h, cell_of_row w _ 1 _ _ _ h, cell_of_row w _ 2 _ _ _ h⟩
  have hS0 := HS.out X (Below.refl _ _)
  have h63n : 0 + n ≤ maxLen := by simp only [maxLen]; omega
  have h63m : 0 + m ≤ maxLen := by simp only [maxLen]; omega
  have hbn : (0 + n) * 4 ≤ 140737488355328 := by omega
  have hbm : (0 + m) * 4 ≤ 140737488355328 := by omega
  go_region_held3 (fun w' => w'.cell? ⟨W.heap.size, 0, none⟩ = some (.int .i64 a) ∧ w'.cell? ⟨W.heap.size, 1, none⟩ = some (.slice A n c) ∧ w'.cell? ⟨W.heap.size, 2, none⟩ = some (.slice B m d)) (first | exact hS2 | exact hS1 | exact hS0 | exact set3_keep w2 W.heap.size _ _ _ _ _ _ hS2)
    (first
      | (refine step_append_rds (by rfl) (.const (.slice none 0 0)) (.tmp 6) 23 (by rfl) X.heap.size 21 i0 _ 1 4 Try.underlying23 hi0 hz0 hz1 hz2 rfl (by decide) (.slice none 0 0) 0 [] (by rfl) (World.ownsRow_nil _ _ _ _) W.heap.size A n c _ (by rfl) (HX.out _ HB0.out.drew) (oneCell_ints _) h63n hbn (by exact Nat.le_refl _) ?_; intro v1 w1 hown1 hg1 hat1; have HB1 : Hid (Below X.heap.size X w1) := (Below.drew (Below.refl _ _)).grown hg1 (Nat.le_refl _) (by simp [Value.ownBlock]); have hS1 := HS.out w1 HB1.out; rw [Nat.zero_add, List.nil_append] at hown1; clear hg1 hat1; obtain ⟨A1, c1, rfl, _, _⟩ := own_form hown1; have HO1 := Lib.hid hown1; clear hown1)
      | (refine step_append_rds (by rfl) (.const (.slice none 0 0)) (.tmp 9) 23 (by rfl) X.heap.size 21 i0 _ 1 4 Try.underlying23 hi0 hz0 hz1 hz2 rfl (by decide) (.slice none 0 0) 0 [] (by rfl) (World.ownsRow_nil _ _ _ _) W.heap.size B m d _ (by rfl) (HY.out _ (HB0.out.trans (HB1.out.mono (by have := HZ0.out; omega)))) (oneCell_ints _) h63m hbm (by exact HB1.out.size) ?_; intro v2 w2 hown2 hg2 hat2; have HC2 : Hid (Below w1.heap.size w1 w2) := (Below.refl _ _).grown hg2 (Nat.le_refl _) (by simp [Value.ownBlock]); have HB2 : Hid (Below X.heap.size X w2) := HB1.out.grown hg2 HB1.out.size (by simp [Value.ownBlock]); have hS2 := HS.out w2 HB2.out; have hT2 := HT.out w2 HB2.out; rw [Nat.zero_add, List.nil_append] at hown2; clear hg2 hat2; obtain ⟨A2, c2, rfl, _, _⟩ := own_form hown2; have HO2 := Lib.hid hown2; clear hown2))
  all_goals
    go_wp2
    have hk2 := (HB2.out.block (W.heap.size + 1) (by have := HZ0.out; omega)).trans HK0.out
    have hk3 := heap_setCell_same w2 (W.heap.size + 1) 0 _ _ (.int .i64 a) hk2
    have hk4 := heap_setCell_same _ (W.heap.size + 1) 1 _ _ (.slice A1 n c1) hk3
    have hk5 := heap_setCell_same _ (W.heap.size + 1) 2 _ _ (.slice A2 m c2) hk4
    have hO1 : w2.ownsRow X.heap.size 21 1 (.slice A1 n c1) n (zs.map (Value.int .i32)) := own_below HO1.out HC2.out fun k hk => (HO1.out.lt k hk).2
    have hcg : Chg [W.heap.size + 1] w2 (((w2.setCell ⟨W.heap.size + 1, 0, none⟩ (.int .i64 a)).setCell ⟨W.heap.size + 1, 1, none⟩ (.slice A1 n c1)).setCell ⟨W.heap.size + 1, 2, none⟩ (.slice A2 m c2)) := (((Chg.refl _ _).setCell (.inl (by simp)) _).setCell (.inl (by simp)) _).setCell (.inl (by simp)) _
    have hbe : Below W.heap.size W (((w2.setCell ⟨W.heap.size + 1, 0, none⟩ (.int .i64 a)).setCell ⟨W.heap.size + 1, 1, none⟩ (.slice A1 n c1)).setCell ⟨W.heap.size + 1, 2, none⟩ (.slice A2 m c2)) := (HB0.out.trans (HB2.out.mono (by have := HZ0.out; omega))).trans (hcg.below (fun k hk => by simp at hk; omega) (by have := HB2.out.size; have := HZ0.out; omega))
    have hr1 := own_keep hO1 hcg fun g hg => by have := blk_ge hO1 (Nat.le_refl _) g hg; have := HZ0.out; simp; omega
    have hr2 := own_keep (own_lower HO2.out (base' := X.heap.size) (by first | exact Nat.le_refl _ | exact HB1.out.size)) hcg fun g hg => by have := blk_ge (own_lower HO2.out (base' := X.heap.size) (by first | exact Nat.le_refl _ | exact HB1.out.size)) (Nat.le_refl _) g hg; have := HZ0.out; simp; omega
    generalize ((w2.setCell ⟨W.heap.size + 1, 0, none⟩ (.int .i64 a)).setCell ⟨W.heap.size + 1, 1, none⟩ (.slice A1 n c1)).setCell ⟨W.heap.size + 1, 2, none⟩ (.slice A2 m c2) = Z at *
    have z0 : Z.cell? ⟨W.heap.size + 1, 0, none⟩ = some (.int .i64 a) := cell_of_row Z _ 0 _ _ _ hk5
    have z1 : Z.cell? ⟨W.heap.size + 1, 1, none⟩ = some (.slice A1 n c1) := cell_of_row Z _ 1 _ _ _ hk5
    have z2 : Z.cell? ⟨W.heap.size + 1, 2, none⟩ = some (.slice A2 m c2) := cell_of_row Z _ 2 _ _ _ hk5
    refine bodyPost_ret (v := .agg #[.int .i64 a, .slice A1 n c1, .slice A2 m c2]) (by simp [results, Try.results40, go_sem, z0, z1, z2]) rfl ⟨A1, c1, A2, c2, rfl, own_lower hr1 (by have := HZ0.out; omega), own_lower hr2 (by have := HZ0.out; omega), hbe⟩
end Go.Proofs.Ytpfceochplghlaa
