/- The walk of Fit. -/
import Derived.Test.YtpfceochplghlaaFa
import Derived.Test.YtpfceochplghlaaZb
namespace Go.Proofs.Ytpfceochplghlaa
open Go.RowKit
attribute [local go_sem ↓] Go.wp_at_zero Go.wp_at_succ

theorem view_rds {w : World} {B : Nat} {A : Option Addr} {n c f l : Nat} {xs : List Int} (h : Rds w B 1 A n (xs.map (Value.int .i32))) (hc : n ≤ c) (hl : f + l ≤ n) :
    ∃ A2, (∀ W, (Instr.slice 23 (.slice A n c) (some (.int .i64 (f : Int))) (some (.int .i64 ((f : Int) + (l : Int)))) none).run Try.prog W = .ok (.slice A2 l (c - f)) W) ∧ Rds w B 1 A2 l (((xs.drop f).take l).map (Value.int .i32)) := by
  obtain ⟨A2, hs, hr⟩ := slice_mid A n c f (f + l) (by omega) hl hc
  have e : f + l - f = l := by omega
  refine ⟨A2, fun W => ?_, ?_⟩
  · have h1 := hs W
    rw [e, show (((f + l : Nat)) : Int) = (f : Int) + (l : Int) from by omega] at h1
    exact h1
  · have h1 := hr w B _ h
    rw [e, ← List.map_drop, ← List.map_take] at h1
    exact h1
theorem index_gap (k : Int) (n a : Nat) (ha : a ≤ n) (hn2 : n ≤ 1000000) (w : World) :
    Calls Try.prog 11 #[.int .i64 k, .int .i64 ((n : Int) - (a : Int) + 1)] w fun e w' => e = .returned (.int .i64 (idx k (n - a + 1))) ∧ w = w' := by
  have h := index_any k (n - a + 1) (by omega) (by omega) w
  rwa [show ((n - a + 1 : Nat) : Int) = (n : Int) - (a : Int) + 1 from by omega] at h

/-- A change that fits: at a, k out, m' of the signs in. -/
def FitPost (W : World) (n m : Nat) (pl ct : Int) (ys : List Int) (e : Ending) (w' : World) : Prop :=
  ∃ a k m' A' c' B' d', e = .returned (.agg #[.int .i64 (a : Nat), .slice A' k c', .slice B' m' d']) ∧ a = idx pl (n + 1) ∧ k = idx ct (n - a + 1) ∧ a + k ≤ n ∧ m' = min m (1000 - (n - k)) ∧ Rds w' w'.heap.size 1 B' m' ((ys.take m').map (Value.int .i32)) ∧ (∀ g ∈ blk B', W.heap.size ≤ g) ∧ Below W.heap.size W w'

theorem fit_end (W w4 : World) (z0 o : Obj) (v0 v1 : Value) (B4 : Option Addr) (m m' d4 : Nat) (ys : List Int) (t0 : List Value) (ht0 : t0.length = 3) (hz0 : z0 = .cells t0.toArray 40 (0, 0)) (hb : Below (W.heap.size + 1) (W.alloc z0) w4) (hrow : w4.ownsRow (W.heap.size + 1) 21 1 (.slice B4 m d4) m (ys.map (Value.int .i32))) (hm : m' ≤ m)
    (Z : World) (hZ : ((((w4.setCell ⟨W.heap.size, 0, none⟩ v0).setCell ⟨W.heap.size, 1, none⟩ v1).setCell ⟨W.heap.size, 2, none⟩ (.slice B4 m' d4)).alloc o) = Z) :
    (Z.cell? ⟨W.heap.size, 0, none⟩ = some v0 ∧ Z.cell? ⟨W.heap.size, 1, none⟩ = some v1 ∧ Z.cell? ⟨W.heap.size, 2, none⟩ = some (.slice B4 m' d4)) ∧ Rds Z Z.heap.size 1 B4 m' ((ys.take m').map (Value.int .i32)) ∧ (∀ g ∈ blk B4, W.heap.size ≤ g) ∧ Below W.heap.size W Z := by
  subst hz0
  match t0, ht0 with
  | [y0, y1, y2], _ =>
    have hk2 : w4.heap[W.heap.size]? = some (.cells #[y0, y1, y2] 40 (0, 0)) := (hb.block W.heap.size (by omega)).trans (heap_alloc_new _ _)
    have hk3 := heap_setCell_same w4 W.heap.size 0 _ _ v0 hk2
    have hk4 := heap_setCell_same _ W.heap.size 1 _ _ v1 hk3
    have hk5 := heap_setCell_same _ W.heap.size 2 _ _ (.slice B4 m' d4) hk4
    have hlt : W.heap.size < (((w4.setCell ⟨W.heap.size, 0, none⟩ v0).setCell ⟨W.heap.size, 1, none⟩ v1).setCell ⟨W.heap.size, 2, none⟩ (.slice B4 m' d4)).heap.size := (Array.getElem?_eq_some_iff.1 hk5).1
    have hkZ : Z.heap[W.heap.size]? = some (.cells (((#[y0, y1, y2].setIfInBounds 0 v0).setIfInBounds 1 v1).setIfInBounds 2 (.slice B4 m' d4)) 40 (0, 0)) := by rw [← hZ]; exact (((Below.refl _ _).alloc (Nat.le_refl _) o).block _ hlt).trans hk5
    have hcg : Chg [W.heap.size] w4 Z := by rw [← hZ]; exact ((((Chg.refl _ _).setCell (.inl (by simp)) _).setCell (.inl (by simp)) _).setCell (.inl (by simp)) _).alloc o
    have hr := own_keep hrow hcg fun g hg => by have := blk_ge hrow (Nat.le_refl _) g hg; simp; omega
    have hsz := hb.size
    simp at hsz
    refine ⟨⟨cell_of_row Z _ 0 _ _ _ hkZ, cell_of_row Z _ 1 _ _ _ hkZ, cell_of_row Z _ 2 _ _ _ hkZ⟩, (Rds.of_own hr).front_ints hm, fun g hg => by have := blk_ge hrow (Nat.le_refl _) g hg; omega, ?_⟩
    exact (((Below.refl _ _).alloc (Nat.le_refl _) _).trans (hb.mono (by omega))).trans (hcg.below (fun k hk => by simp at hk; omega) (by omega))

set_option maxHeartbeats 1000000 in
theorem fit_any (W : World) (pl ct : Int) (A B : Option Addr) (n c m d : Nat) (zs ys : List Int) (hx : Rds W W.heap.size 1 A n (zs.map (Value.int .i32))) (hy : Rds W W.heap.size 1 B m (ys.map (Value.int .i32))) (hc : n ≤ c) (hn : n ≤ 1000) (hm : m ≤ 20000) :
    Calls Try.prog 19 #[.slice A n c, .int .i64 pl, .int .i64 ct, .slice B m d] W (FitPost W n m pl ct ys) := by
  obtain ⟨a, ea⟩ : ∃ a, idx pl (n + 1) = a := ⟨_, rfl⟩
  have ha : a ≤ n := by have := idx_lt pl (n + 1) (by omega); omega
  obtain ⟨k, ek⟩ : ∃ k, idx ct (n - a + 1) = k := ⟨_, rfl⟩
  have hak : a + k ≤ n := by have := idx_lt ct (n - a + 1) (by omega); omega
  obtain ⟨A2, hs2, hr2⟩ := view_rds hx hc hak
  have HR2 := Lib.hid hr2
  have HY := Lib.hid hy
  have HI1 : ∀ w, Calls Try.prog 11 #[.int .i64 pl, .int .i64 ((n : Int) + 1)] w fun e w' => e = .returned (.int .i64 a) ∧ w = w' := fun w => by
    have h := index_succ pl n (by omega) w
    rw [ea] at h
    exact h
  have HI2 : ∀ w, Calls Try.prog 11 #[.int .i64 ct, .int .i64 ((n : Int) - (a : Int) + 1)] w fun e w' => e = .returned (.int .i64 k) ∧ w = w' := fun w => by
    have h := index_gap ct n a ha (by omega) w
    rw [ek] at h
    exact h
  have HEA := Lib.hid ea
  have HEK := Lib.hid ek
  have hw2 : IntKind.i64.wrap ((n : Int) - (a : Int)) = (n : Int) - (a : Int) := IntWalk.i64_in _ (by omega)
  have hw3 : IntKind.i64.wrap ((n : Int) - (a : Int) + 1) = (n : Int) - (a : Int) + 1 := IntWalk.i64_in _ (by omega)
  have hw4 : IntKind.i64.wrap ((a : Int) + (k : Int)) = (a : Int) + (k : Int) := IntWalk.i64_in _ (by omega)
  obtain ⟨q, hq⟩ : ∃ q, n - k = q := ⟨_, rfl⟩
  have hw5 : IntKind.i64.wrap ((n : Int) - (k : Int)) = (q : Int) := by rw [show (n : Int) - (k : Int) = (q : Int) from by omega]; exact IntWalk.i64_in _ (by omega)
  obtain ⟨r, hr⟩ : ∃ r, 1000 - q = r := ⟨_, rfl⟩
  have hw6 : IntKind.i64.wrap (1000 - (q : Int)) = (r : Int) := by rw [show 1000 - (q : Int) = (r : Int) from by omega]; exact IntWalk.i64_in _ (by omega)
  have HQ := Lib.hid hq
  have HRR := Lib.hid hr
  clear hx hy hr2 ea ek
  go_enter Try.func19, Try.ntmps19
  go_upto_region 4 with (first
    | (go_at_call 11; (with_reducible refine (HI1 _).mono ?_); rintro e w1 ⟨rfl, rfl⟩)
    | (go_at_call 11; (with_reducible refine (HI2 _).mono ?_); rintro e w1 ⟨rfl, rfl⟩)
    | (go_at_call 40; (with_reducible refine (copied_any _ (a : Int) A2 B k (c - a) m d _ ys ((HR2.out.alloc (Nat.le_refl _) _).more (by simp)) ((HY.out.alloc (Nat.le_refl _) _).more (by simp)) (by omega) hm).mono ?_); rintro e w4 ⟨A4, c4, B4, d4, rfl, hcp1, hcp2, hb4⟩; have HCP := Lib.hid hcp2; have HB4 := Lib.hid hb4; clear hcp1 hcp2 hb4))
  have HK4 : Hid (w4.heap[W.heap.size]? = some (.cells #[.int .i64 0, .slice none 0 0, .slice none 0 0] 40 (0, 0))) := (HB4.out.block _ (by simp)).trans (heap_alloc_new _ _)
  have hz4 : W.heap.size < w4.heap.size := (Array.getElem?_eq_some_iff.1 HK4.out).1
  have hr0 : (0 : Int) ≤ (r : Int) := by omega
  have f0 := frozen_of_row w4 W.heap.size 0 _ _ HK4.out
  have f1 := frozen_of_row w4 W.heap.size 1 _ _ HK4.out
  have f2 := frozen_of_row w4 W.heap.size 2 _ _ HK4.out
  have g0 := cell_of_row w4 W.heap.size 0 _ _ _ HK4.out
  have g1 := cell_of_row w4 W.heap.size 1 _ _ _ HK4.out
  have g2 := cell_of_row w4 W.heap.size 2 _ _ _ HK4.out
  clear hw2 hw3 hw4 HI1 HI2 hs2
  have hmx : (if 0 < r then (r : Int) else 0) = (r : Int) := by split <;> omega
  go_upto_region 5 with fail
  clear hmx hr0
  by_cases hmr : m ≤ r
  · go_wp2
    have hfe := fit_end W w4 _ (.cells #[.int .i64 a, .slice A4 k c4, .slice B4 m d4] 40 (0, 0)) (.int .i64 a) (.slice A4 k c4) B4 m m d4 ys [.int .i64 0, .slice none 0 0, .slice none 0 0] rfl rfl (by have h := HB4.out; simp at h; exact h) (by have h := HCP.out; simp [CpAt] at h; exact h) (by omega)
    generalize ((((w4.setCell ⟨W.heap.size, 0, none⟩ (.int .i64 a)).setCell ⟨W.heap.size, 1, none⟩ (.slice A4 k c4)).setCell ⟨W.heap.size, 2, none⟩ (.slice B4 m d4)).alloc (.cells #[.int .i64 a, .slice A4 k c4, .slice B4 m d4] 40 (0, 0))) = Z at *
    obtain ⟨⟨x0, x1, x2⟩, q1, q2, q3⟩ := hfe Z rfl
    refine bodyPost_ret (v := .agg #[.int .i64 a, .slice A4 k c4, .slice B4 m d4]) (by simp [results, Try.results19, go_sem, x0, x1, x2]) rfl ⟨a, k, m, A4, c4, B4, d4, rfl, HEA.out.symm, HEK.out.symm, hak, by have h1 := HQ.out; have h2 := HRR.out; omega, q1, q2, q3⟩
  · have hrm : (r : Int) < (m : Int) := by omega
    have hs4 : ∀ w, (Instr.slice 23 (.slice B4 m d4) none (some (.int .i64 (r : Int))) none).run Try.prog w = .ok (.slice B4 r d4) w := slice_to B4 m d4 r (by have := (own_cap HCP.out).2.1; omega)
    go_wp2
    have hfe := fit_end W w4 _ (.cells #[.int .i64 a, .slice A4 k c4, .slice B4 r d4] 40 (0, 0)) (.int .i64 a) (.slice A4 k c4) B4 m r d4 ys [.int .i64 0, .slice none 0 0, .slice none 0 0] rfl rfl (by have h := HB4.out; simp at h; exact h) (by have h := HCP.out; simp [CpAt] at h; exact h) (by omega)
    generalize ((((w4.setCell ⟨W.heap.size, 0, none⟩ (.int .i64 a)).setCell ⟨W.heap.size, 1, none⟩ (.slice A4 k c4)).setCell ⟨W.heap.size, 2, none⟩ (.slice B4 r d4)).alloc (.cells #[.int .i64 a, .slice A4 k c4, .slice B4 r d4] 40 (0, 0))) = Z at *
    obtain ⟨⟨x0, x1, x2⟩, q1, q2, q3⟩ := hfe Z rfl
    refine bodyPost_ret (v := .agg #[.int .i64 a, .slice A4 k c4, .slice B4 r d4]) (by simp [results, Try.results19, go_sem, x0, x1, x2]) rfl ⟨a, k, r, A4, c4, B4, d4, rfl, HEA.out.symm, HEK.out.symm, hak, by have h1 := HQ.out; have h2 := HRR.out; omega, q1, q2, q3⟩
end Go.Proofs.Ytpfceochplghlaa
