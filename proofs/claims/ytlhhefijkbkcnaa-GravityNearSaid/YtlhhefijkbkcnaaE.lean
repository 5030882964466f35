/- The walk of GravityTells. -/
import Derived.Test.YtlhhefijkbkcnaaD
namespace Go.Proofs.Ytlhhefijkbkcnaa
open Go.RowKit

/-- What the three boxed structs hold. -/
def TC (H D : Nat) (a f t : Int) (vA vB v1 v2 : Value) (W : World) : Prop :=
  H < W.heap.size ∧ H + 1 < W.heap.size ∧ D < W.heap.size ∧ W.cell? ⟨H, 0, none⟩ = some (.int .i64 a) ∧ W.cell? ⟨H, 1, none⟩ = some vA ∧ W.cell? ⟨H, 2, none⟩ = some vB ∧
  W.cell? ⟨H + 1, 0, none⟩ = some (.int .i64 f) ∧ W.cell? ⟨H + 1, 1, none⟩ = some (.int .i64 t) ∧ W.cell? ⟨D, 0, none⟩ = some (.int .i64 a) ∧ W.cell? ⟨D, 1, none⟩ = some v1 ∧ W.cell? ⟨D, 2, none⟩ = some v2
theorem TC.below {H D : Nat} {a f t : Int} {vA vB v1 v2 : Value} {W W' : World} (h : TC H D a f t vA vB v1 v2 W) (hb : Below W.heap.size W W') : TC H D a f t vA vB v1 v2 W' := by
  obtain ⟨s1, s2, s3, c1, c2, c3, c4, c5, c6, c7, c8⟩ := h
  have hz := hb.size
  have k := cells_of hb
  exact ⟨by omega, by omega, by omega, (k _ _ s1).trans c1, (k _ _ s1).trans c2, (k _ _ s1).trans c3, (k _ _ s2).trans c4, (k _ _ s2).trans c5, (k _ _ s3).trans c6, (k _ _ s3).trans c7, (k _ _ s3).trans c8⟩

/-- What stays while the law asks. -/
def TS (w : World) (D : Nat) (a f t : Int) (vA vB : Value) (g1 n1 c1 g2 n2 c2 : Nat) (xs ys : List Value) (W : World) : Prop :=
  TC w.heap.size D a f t vA vB (.slice (some ⟨g1, 0, none⟩) n1 c1) (.slice (some ⟨g2, 0, none⟩) n2 c2) W ∧ Below w.heap.size w W ∧
  (∃ b, W.ownsRow b 21 1 (.slice (some ⟨g1, 0, none⟩) (n1 + 2) c1) (n1 + 2) xs) ∧ (∃ b, W.ownsRow b 21 1 (.slice (some ⟨g2, 0, none⟩) (n2 + 2) c2) (n2 + 2) ys)
theorem TS.below {w : World} {D : Nat} {a f t : Int} {vA vB : Value} {g1 n1 c1 g2 n2 c2 : Nat} {xs ys : List Value} {W W' : World} (h : TS w D a f t vA vB g1 n1 c1 g2 n2 c2 xs ys W) (hb : Below W.heap.size W W') :
    TS w D a f t vA vB g1 n1 c1 g2 n2 c2 xs ys W' := by
  obtain ⟨h1, h2, ⟨b1, h3⟩, ⟨b2, h4⟩⟩ := h
  exact ⟨h1.below hb, h2.trans (hb.mono h2.size), ⟨b1, own_below h3 hb fun k hk => (h3.lt k hk).2⟩, ⟨b2, own_below h4 hb fun k hk => (h4.lt k hk).2⟩⟩

theorem TS.cells {w : World} {D : Nat} {a f t : Int} {vA vB : Value} {g1 n1 c1 g2 n2 c2 : Nat} {xs ys : List Value} {W : World} (h : TS w D a f t vA vB g1 n1 c1 g2 n2 c2 xs ys W) :
    W.cell? ⟨w.heap.size, 0, none⟩ = some (.int .i64 a) ∧ W.cell? ⟨w.heap.size, 1, none⟩ = some vA ∧ W.cell? ⟨w.heap.size, 2, none⟩ = some vB ∧ W.cell? ⟨w.heap.size + 1, 0, none⟩ = some (.int .i64 f) ∧ W.cell? ⟨w.heap.size + 1, 1, none⟩ = some (.int .i64 t) ∧ W.cell? ⟨D, 0, none⟩ = some (.int .i64 a) ∧ W.cell? ⟨D, 1, none⟩ = some (.slice (some ⟨g1, 0, none⟩) n1 c1) ∧ W.cell? ⟨D, 2, none⟩ = some (.slice (some ⟨g2, 0, none⟩) n2 c2) := h.1.2.2.2
theorem TS.bel {w : World} {D : Nat} {a f t : Int} {vA vB : Value} {g1 n1 c1 g2 n2 c2 : Nat} {xs ys : List Value} {W : World} (h : TS w D a f t vA vB g1 n1 c1 g2 n2 c2 xs ys W) : Below w.heap.size w W := h.2.1
theorem TS.own1 {w : World} {D : Nat} {a f t : Int} {vA vB : Value} {g1 n1 c1 g2 n2 c2 : Nat} {xs ys : List Value} {W : World} (h : TS w D a f t vA vB g1 n1 c1 g2 n2 c2 xs ys W) : ∃ b, W.ownsRow b 21 1 (.slice (some ⟨g1, 0, none⟩) (n1 + 2) c1) (n1 + 2) xs := h.2.2.1
theorem TS.own2 {w : World} {D : Nat} {a f t : Int} {vA vB : Value} {g1 n1 c1 g2 n2 c2 : Nat} {xs ys : List Value} {W : World} (h : TS w D a f t vA vB g1 n1 c1 g2 n2 c2 xs ys W) : ∃ b, W.ownsRow b 21 1 (.slice (some ⟨g2, 0, none⟩) (n2 + 2) c2) (n2 + 2) ys := h.2.2.2
theorem TS.drew {w : World} {D : Nat} {a f t : Int} {vA vB : Value} {g1 n1 c1 g2 n2 c2 : Nat} {xs ys : List Value} {W : World} (h : TS w D a f t vA vB g1 n1 c1 g2 n2 c2 xs ys W) : TS w D a f t vA vB g1 n1 c1 g2 n2 c2 xs ys W.drew := h.below (Below.drew (Below.refl _ _))
theorem place_b (p a : Int) (n m : Nat) (A B : Option Addr) (c d : Nat) (r : Bool) (w : World) (hn : n ≤ 70368744177664) (hm : m ≤ 70368744177664) :
    Calls Try.prog 9 #[.int .i64 p, .agg #[.int .i64 a, .slice A n c, .slice B m d], .bool r] w fun e w' => e = .returned (.int .i64 (plc p a n m r)) ∧ Below w.heap.size w w' :=
  (place_any p a n m A B c d r w hn hm).mono fun _ _ ⟨he, k, hw⟩ => ⟨he, by subst hw; exact below_drewN ((Below.refl _ _).alloc (Nat.le_refl _) _) k⟩
theorem moved_b (p a : Int) (n m : Nat) (A B : Option Addr) (c d : Nat) (r : Bool) (w : World) (hn : n ≤ 70368744177664) (hm : m ≤ 70368744177664) :
    Calls Try.prog 10 #[.int .i64 p, .agg #[.int .i64 a, .slice A n c, .slice B m d], .bool r] w fun e w' => e = .returned (.int .i64 (plc p a n m r)) ∧ Below w.heap.size w w' :=
  (moved_any p a n m A B c d r w hn hm).mono fun _ _ ⟨he, k, hw⟩ => ⟨he, by subst hw; exact below_drewN ((Below.refl _ _).alloc (Nat.le_refl _) _) k⟩

set_option maxHeartbeats 2000000 in
theorem tells_any (p a f t how : Int) (r : Bool) (A B : Option Addr) (n c m d : Nat) (zs ys : List Int) (w : World) (hr : Rds w w.heap.size 1 A n (zs.map (Value.int .i32))) (hs : Rds w w.heap.size 1 B m (ys.map (Value.int .i32)))
    (hn : n * 4 ≤ 140737488351232) (hm : m * 4 ≤ 140737488351232) :
    Calls Try.prog 3 #[.int .i64 p, .agg #[.int .i64 a, .slice A n c, .slice B m d], .agg #[.int .i64 f, .int .i64 t], .int .i64 how, .bool r] w fun e w' => e = .returned (.bool true) ∧ Below w.heap.size w w' := by
  have hA : ∀ W, Below w.heap.size w W → Rds W W.heap.size 1 A n (zs.map (Value.int .i32)) := fun W hb => (hr.below hb).more hb.size
  have hB : ∀ W, Below w.heap.size w W → Rds W W.heap.size 1 B m (ys.map (Value.int .i32)) := fun W hb => (hs.below hb).more hb.size
  go_enter Try.func3, Try.ntmps3
  go_wp2
  go_region_held3 (fun w' => w'.cell? ⟨w.heap.size, 0, none⟩ = some (.int .i64 a) ∧ w'.cell? ⟨w.heap.size, 1, none⟩ = some (.slice A n c) ∧ w'.cell? ⟨w.heap.size, 2, none⟩ = some (.slice B m d) ∧ w'.cell? ⟨w.heap.size + 1, 0, none⟩ = some (.int .i64 f) ∧ w'.cell? ⟨w.heap.size + 1, 1, none⟩ = some (.int .i64 t)) (simp [go_sem, World.cell?_alloc_past, *])
    (first
      | (go_at_call 8; (with_reducible refine (lend_any A n c zs _ (hA _ (by repeat (first | exact Below.refl _ _ | assumption | refine below_drewN ?_ _ | refine Below.drew ?_ | refine Below.alloc ?_ (by simp <;> omega) _))) hn).mono ?_); rintro e w1 ⟨g1, cap1, rfl, hown1, hb1⟩; have hcl1 := cells_of hb1; have hz1 : w.heap.size + 1 < w1.heap.size := (by have := hb1.size; (try simp at this); omega); have hy1 : w.heap.size < w1.heap.size := (by omega); have HB1 : Below w.heap.size w w1 := Below.trans (by repeat (first | exact Below.refl _ _ | refine below_drewN ?_ _ | refine Below.drew ?_ | refine Below.alloc ?_ (by simp <;> omega) _)) (hb1.mono (by simp <;> omega)); clear hb1)
      | (go_at_call 8; (with_reducible refine (lend_any B m d ys _ (hB _ HB1) hm).mono ?_); rintro e w2 ⟨g2, cap2, rfl, hown2, hb2⟩; have hcl2 := cells_of hb2; have hz2 : w.heap.size + 1 < w2.heap.size := (by have := hb2.size; (try simp at this); omega); have hy2 : w.heap.size < w2.heap.size := (by omega); have HB2 : Below w.heap.size w w2 := HB1.trans (hb2.mono (by omega)); have HX2 := Lib.hid hb2; clear hb2))
  go_wp2
  obtain ⟨D, hD⟩ : ∃ D, D = w2.heap.size := ⟨_, rfl⟩
  obtain ⟨W, hW⟩ : ∃ W, W = w2.alloc (.cells #[.int .i64 a, .slice (some ⟨g1, 0, none⟩) n cap1, .slice (some ⟨g2, 0, none⟩) m cap2] 24) := ⟨_, rfl⟩
  rw [← hW, ← hD]
  have HS : TS w D a f t (.slice A n c) (.slice B m d) g1 n cap1 g2 m cap2 ((zs ++ [-77, -78]).map (Value.int .i32)) ((ys ++ [-77, -78]).map (Value.int .i32)) W := by
    subst hW; subst hD
    have hbw := (Below.refl w2.heap.size w2).alloc (Nat.le_refl _) (.cells #[.int .i64 a, .slice (some ⟨g1, 0, none⟩) n cap1, .slice (some ⟨g2, 0, none⟩) m cap2] 24)
    have k := cells_of hbw
    have hh : w2.cell? ⟨w.heap.size, 0, none⟩ = some (.int .i64 a) ∧ w2.cell? ⟨w.heap.size, 1, none⟩ = some (.slice A n c) ∧ w2.cell? ⟨w.heap.size, 2, none⟩ = some (.slice B m d) ∧ w2.cell? ⟨w.heap.size + 1, 0, none⟩ = some (.int .i64 f) ∧ w2.cell? ⟨w.heap.size + 1, 1, none⟩ = some (.int .i64 t) := by assumption
    obtain ⟨e1, e2, e3, e4, e5⟩ := hh
    refine ⟨⟨by simp; omega, by simp; omega, by simp, (k _ _ hy2).trans e1, (k _ _ hy2).trans e2, (k _ _ hy2).trans e3, (k _ _ hz2).trans e4, (k _ _ hz2).trans e5, by simp [go_sem], by simp [go_sem], by simp [go_sem]⟩, HB2.alloc HB2.size _, ⟨_, (own_below hown1 HX2.out fun k hk => (hown1.lt k hk).2).alloc _⟩, ⟨_, hown2.alloc _⟩⟩
  have hn' : n ≤ 70368744177664 := by omega
  have hm' : m ≤ 70368744177664 := by omega
  clear hD hW hcl1 hcl2 hz1 hz2 hy1 hy2 HB1 HB2 HX2 hown1 hown2
  go_region_held3 (fun w' => w'.cell? ⟨w.heap.size, 0, none⟩ = some (.int .i64 a) ∧ w'.cell? ⟨w.heap.size, 1, none⟩ = some (.slice A n c) ∧ w'.cell? ⟨w.heap.size, 2, none⟩ = some (.slice B m d) ∧ w'.cell? ⟨w.heap.size + 1, 0, none⟩ = some (.int .i64 f) ∧ w'.cell? ⟨w.heap.size + 1, 1, none⟩ = some (.int .i64 t) ∧ w'.cell? ⟨D, 0, none⟩ = some (.int .i64 a) ∧ w'.cell? ⟨D, 1, none⟩ = some (.slice (some ⟨g1, 0, none⟩) n cap1) ∧ w'.cell? ⟨D, 2, none⟩ = some (.slice (some ⟨g2, 0, none⟩) m cap2)) (first | exact hS2.cells | exact hS1.cells | exact HS.cells)
    (first
      | (go_at_call 9; (with_reducible refine (place_b _ _ _ _ _ _ _ _ _ _ hn' hm').mono ?_); rintro e w1 ⟨rfl, hb1⟩; have hS1 := HS.drew.below hb1; clear hb1)
      | (go_at_call 10; (with_reducible refine (moved_b _ _ _ _ _ _ _ _ _ _ hn' hm').mono ?_); rintro e w2 ⟨rfl, hb2⟩; have hS2 := hS1.below hb2; clear hb2))
  go_wp2
  clear hS1 HS
  go_loopw [14] (fun i wr => ∃ k : Nat, k ≤ 4 ∧ i = .int .i64 k ∧ TS w D a f t (.slice A n c) (.slice B m d) g1 n cap1 g2 m cap2 ((zs ++ [-77, -78]).map (Value.int .i32)) ((ys ++ [-77, -78]).map (Value.int .i32)) wr) (fun i _ => 4 - (intOf i).toNat)
  case atStart => exact ⟨0, by omega, rfl, hS2⟩
  case round =>
    clear hS2
    obtain ⟨k, hk, rfl, HS⟩ := hrel
    by_cases hlt : k < 4
    · go_wp2
      go_region_held3 (fun w' => w'.cell? ⟨w.heap.size, 0, none⟩ = some (.int .i64 a) ∧ w'.cell? ⟨w.heap.size, 1, none⟩ = some (.slice A n c) ∧ w'.cell? ⟨w.heap.size, 2, none⟩ = some (.slice B m d) ∧ w'.cell? ⟨w.heap.size + 1, 0, none⟩ = some (.int .i64 f) ∧ w'.cell? ⟨w.heap.size + 1, 1, none⟩ = some (.int .i64 t) ∧ w'.cell? ⟨D, 0, none⟩ = some (.int .i64 a) ∧ w'.cell? ⟨D, 1, none⟩ = some (.slice (some ⟨g1, 0, none⟩) n cap1) ∧ w'.cell? ⟨D, 2, none⟩ = some (.slice (some ⟨g2, 0, none⟩) m cap2)) (first | exact hS2.cells | exact hS1.cells | exact HS.cells)
        (first
          | (go_at_call 11; (with_reducible refine (span_any _ _ _ _ _ _ _ _ _ _ _ hn' hm').mono ?_); rintro e w1 ⟨rfl, hb1⟩; have hS1 := HS.drew.below hb1; clear hb1)
          | (go_at_call 12; (with_reducible refine (rspan_any _ _ _ _ _ _ _ _ _ _ _ hn' hm').mono ?_); rintro e w2 ⟨rfl, hb2⟩; have hS2 := hS1.below hb2; clear hb2))
      go_wp2
      go_roundw
      case rel => exact ⟨k + 1, by omega, by go_num, hS2⟩
      case measure => simp [intOf]; omega
    · go_wp2
      go_region_held3 (fun w' => w'.cell? ⟨w.heap.size, 0, none⟩ = some (.int .i64 a) ∧ w'.cell? ⟨w.heap.size, 1, none⟩ = some (.slice A n c) ∧ w'.cell? ⟨w.heap.size, 2, none⟩ = some (.slice B m d) ∧ w'.cell? ⟨w.heap.size + 1, 0, none⟩ = some (.int .i64 f) ∧ w'.cell? ⟨w.heap.size + 1, 1, none⟩ = some (.int .i64 t) ∧ w'.cell? ⟨D, 0, none⟩ = some (.int .i64 a) ∧ w'.cell? ⟨D, 1, none⟩ = some (.slice (some ⟨g1, 0, none⟩) n cap1) ∧ w'.cell? ⟨D, 2, none⟩ = some (.slice (some ⟨g2, 0, none⟩) m cap2)) (first | exact hS5.cells | exact hS4.cells | exact hS3.cells | exact hS2.cells | exact hS1.cells | exact HS.cells)
        (first
          | (go_at_call 11; (with_reducible refine (span_any _ _ _ _ _ _ _ _ _ _ _ hn' hm').mono ?_); rintro e w1 ⟨rfl, hb1⟩; have hS1 := HS.drew.below hb1; clear hb1)
          | (go_at_call 12; (with_reducible refine (rspan_any _ _ _ _ _ _ _ _ _ _ _ hn' hm').mono ?_); rintro e w2 ⟨rfl, hb2⟩; have hS2 := hS1.below hb2; clear hb2)
          | (go_at_call 13; obtain ⟨bb, ho⟩ := hS2.own1; (with_reducible refine (kept_any g1 n cap1 c _ bb A zs _ ho (hA _ hS2.bel) hn' (Nat.le_refl _)).mono ?_); clear ho; rintro e w3 ⟨rfl, q3, rfl⟩; have hS3 := hS2.below (below_drewN (Below.refl _ _) q3))
          | (go_at_call 13; obtain ⟨bb, ho⟩ := hS3.own2; (with_reducible refine (kept_any g2 m cap2 d _ bb B ys _ ho (hB _ hS3.bel) hm' (Nat.le_refl _)).mono ?_); clear ho; rintro e w4 ⟨rfl, q4, rfl⟩; have hS4 := hS3.below (below_drewN (Below.refl _ _) q4))
          | (go_at_call 14; (with_reducible refine (known_any _).mono ?_); rintro e w5 ⟨rfl, hb5⟩; have hS5 := (hS2.below (below_drewN (Below.refl _ _) (q3 + q4))).below hb5; clear hb5))
      go_wp2
      go_ret
      exact ⟨rfl, hS5.bel⟩
end Go.Proofs.Ytlhhefijkbkcnaa
