/- The walk of GravityOrders. -/
import Derived.Test.YtlhhefijkbkcnaaF
import Derived.Test.YtlhhefijkbkcnaaHold
import Derived.Deep.DeepCutAuto
namespace Go.Proofs.Ytlhhefijkbkcnaa
open Go.RowKit

theorem place_v (p a : Int) (n m : Nat) (A B : Option Addr) (c d : Nat) (r : Bool) (v : Int) (w : World) (hn : n ≤ 70368744177664) (hm : m ≤ 70368744177664) (hv : Hid (plc p a n m r = v)) :
    Calls Try.prog 9 #[.int .i64 p, .agg #[.int .i64 a, .slice A n c, .slice B m d], .bool r] w fun e w' => e = .returned (.int .i64 v) ∧ Below w.heap.size w w' := by
  have h := hv.out; subst h; exact place_b p a n m A B c d r w hn hm
theorem span_v (f t a how : Int) (n m : Nat) (A B : Option Addr) (c d : Nat) (x y : Int) (w : World) (hn : n ≤ 70368744177664) (hm : m ≤ 70368744177664) (hx : Hid (sp1 f t a n m how = x)) (hy : Hid (sp2 f t a n m how = y)) :
    Calls Try.prog 11 #[.agg #[.int .i64 f, .int .i64 t], .agg #[.int .i64 a, .slice A n c, .slice B m d], .int .i64 how] w fun e w' => e = .returned (.agg #[.int .i64 x, .int .i64 y]) ∧ Below w.heap.size w w' := by
  have h := hx.out; subst h; have h := hy.out; subst h; exact span_any f t a how n m A B c d w hn hm

/-- The order of places. -/
theorem plc_mono (p q a : Nat) (n m : Nat) (r : Bool) (hp : p ≤ q) (hq : q ≤ 1000) (ha : a ≤ 500) : plc p a n m r ≤ plc q a n m r := by
  unfold plc
  (repeat' split) <;> omega
theorem plc_right (p a : Nat) (n m : Nat) : plc p a n m false ≤ plc p a n m true := by
  unfold plc
  (repeat' split) <;> first | omega | simp_all
theorem plc_nonneg (p a : Nat) (n m : Nat) (r : Bool) : 0 ≤ plc p a n m r := by
  unfold plc
  (repeat' split) <;> omega
theorem sp_in (p q a : Nat) (n m : Nat) (how : Int) (hp : p ≤ 1000) (hq : q ≤ 1000) (ha : a ≤ 500) (h0 : 0 ≤ how) (h2 : how ≤ 2) : sp1 p q a n m how = plc p a n m (how == 2) ∧ sp2 p q a n m how = plc q a n m (how != 1) := by
  unfold sp1 sp2
  rw [if_neg (by omega), if_neg (by omega)]
  exact ⟨rfl, rfl⟩

theorem frozens_of {W w1 : World} (hb : Below W.heap.size W w1) : ∀ b o, b < W.heap.size → w1.frozen? ⟨b, o, none⟩ = W.frozen? ⟨b, o, none⟩ :=
  fun b o h => hb.frozen (p := ⟨b, o, none⟩) h

set_option maxRecDepth 100000 in
set_option maxHeartbeats 8000000 in
theorem orders_le (a0 x y : Int) (A B : Option Addr) (n c m d : Nat) (w : World) (hn : n ≤ 70368744177664) (hm : m ≤ 70368744177664) (a p q : Nat) (Ha : Hid (idx a0 500 = a)) (Hp : Hid (idx x 1000 = p)) (Hq : Hid (idx y 1000 = q))
    (ha : a < 500) (hp : p < 1000) (hq : q < 1000) (hpq : p ≤ q) :
    Calls Try.prog 6 #[.agg #[.int .i64 a0, .slice A n c, .slice B m d], .int .i64 x, .int .i64 y] w fun e w' => e = .returned (.bool true) ∧ Below w.heap.size w w' := by
  obtain ⟨P0, HP0⟩ : ∃ v, Hid (plc p a n m false = v) := ⟨_, rfl⟩
  obtain ⟨P1, HP1⟩ : ∃ v, Hid (plc p a n m true = v) := ⟨_, rfl⟩
  obtain ⟨Q0, HQ0⟩ : ∃ v, Hid (plc q a n m false = v) := ⟨_, rfl⟩
  obtain ⟨Q1, HQ1⟩ : ∃ v, Hid (plc q a n m true = v) := ⟨_, rfl⟩
  have l1 : P0 ≤ P1 := by rw [← HP0.out, ← HP1.out]; exact plc_right _ _ _ _
  have l2 : Q0 ≤ Q1 := by rw [← HQ0.out, ← HQ1.out]; exact plc_right _ _ _ _
  have l3 : P0 ≤ Q0 := by rw [← HP0.out, ← HQ0.out]; exact plc_mono _ _ _ _ _ _ (by omega) (by omega) (by omega)
  have l4 : P1 ≤ Q1 := by rw [← HP1.out, ← HQ1.out]; exact plc_mono _ _ _ _ _ _ (by omega) (by omega) (by omega)
  have l5 : 0 ≤ P0 := by rw [← HP0.out]; exact plc_nonneg _ _ _ _ _
  go_enter Try.func6, Try.ntmps6
  go_wp2_with (first
    | (go_at_call 16; (with_reducible refine (index_500 a0 a Ha _).mono ?_); rintro e w' ⟨rfl, rfl⟩)
    | (go_at_call 16; (with_reducible refine (index_1000 x p Hp _).mono ?_); rintro e w' ⟨rfl, rfl⟩)
    | (go_at_call 16; (with_reducible refine (index_1000 y q Hq _).mono ?_); rintro e w' ⟨rfl, rfl⟩))
  obtain ⟨W, hW⟩ : ∃ W, W = w.alloc (.cells #[.int .i64 a, .slice A n c, .slice B m d] 24) := ⟨_, rfl⟩
  rw [← hW]
  have HS : Hold w [(w.heap.size, 0, .int .i64 a), (w.heap.size, 1, .slice A n c), (w.heap.size, 2, .slice B m d)] W := by
    subst hW
    refine Hold.cons (Hold.cons (Hold.cons (Hold.nil ((Below.refl _ _).alloc (Nat.le_refl _) _)) (by simp) (by simp [go_sem])) (by simp) (by simp [go_sem])) (by simp) (by simp [go_sem])
  clear hW
  go_region_held3 (fun w' => w'.cell? ⟨w.heap.size, 0, none⟩ = some (.int .i64 a) ∧ w'.cell? ⟨w.heap.size, 1, none⟩ = some (.slice A n c) ∧ w'.cell? ⟨w.heap.size, 2, none⟩ = some (.slice B m d)) (first | exact ⟨hS2.at_ 0 rfl, hS2.at_ 1 rfl, hS2.at_ 2 rfl⟩ | exact ⟨hS1.at_ 0 rfl, hS1.at_ 1 rfl, hS1.at_ 2 rfl⟩ | exact ⟨HS.at_ 0 rfl, HS.at_ 1 rfl, HS.at_ 2 rfl⟩)
    (first
      | (go_at_call 9; (with_reducible refine (place_v p a n m _ _ _ _ false P0 _ hn hm HP0).mono ?_); rintro e w1 ⟨rfl, hb1⟩; have hS1 := HS.drew.below hb1; clear hb1)
      | (go_at_call 9; (with_reducible refine (place_v p a n m _ _ _ _ true P1 _ hn hm HP1).mono ?_); rintro e w2 ⟨rfl, hb2⟩; have hS2 := hS1.below hb2; clear hb2))
  go_wp2
  clear hS1 HS
  go_region_held3 (fun w' => w'.cell? ⟨w.heap.size, 0, none⟩ = some (.int .i64 a) ∧ w'.cell? ⟨w.heap.size, 1, none⟩ = some (.slice A n c) ∧ w'.cell? ⟨w.heap.size, 2, none⟩ = some (.slice B m d)) (first | exact ⟨hS4.at_ 0 rfl, hS4.at_ 1 rfl, hS4.at_ 2 rfl⟩ | exact ⟨hS3.at_ 0 rfl, hS3.at_ 1 rfl, hS3.at_ 2 rfl⟩ | exact ⟨hS2.at_ 0 rfl, hS2.at_ 1 rfl, hS2.at_ 2 rfl⟩)
    (first
      | (go_at_call 9; (with_reducible refine (place_v q a n m _ _ _ _ false Q0 _ hn hm HQ0).mono ?_); rintro e w3 ⟨rfl, hb1⟩; have hS3 := hS2.drew.below hb1; clear hb1)
      | (go_at_call 9; (with_reducible refine (place_v q a n m _ _ _ _ true Q1 _ hn hm HQ1).mono ?_); rintro e w4 ⟨rfl, hb2⟩; have hS4 := hS3.below hb2; clear hb2))
  clear hS2 hS3
  go_wp2
  obtain ⟨F, hF⟩ : ∃ F, F = w4.heap.size := ⟨_, rfl⟩
  obtain ⟨G, hG⟩ : ∃ G, G = w4.heap.size + 1 := ⟨_, rfl⟩
  obtain ⟨W, hW⟩ : ∃ W, W = (w4.alloc (.cells #[.int .i64 p, .int .i64 q] 26)).alloc (.cells #[.int .i64 0, .int .i64 1, .int .i64 2] 3) := ⟨_, rfl⟩
  rw [← hW, ← hG, ← hF]
  have HS : Hold w [(w.heap.size, 0, .int .i64 a), (w.heap.size, 1, .slice A n c), (w.heap.size, 2, .slice B m d), (F, 0, .int .i64 p), (F, 1, .int .i64 q), (G, 0, .int .i64 0), (G, 1, .int .i64 1), (G, 2, .int .i64 2)] W := by
    subst hW; subst hF; subst hG
    have k := (hS4.alloc (.cells #[.int .i64 p, .int .i64 q] 26)).alloc (.cells #[.int .i64 0, .int .i64 1, .int .i64 2] 3)
    refine Hold.cons (Hold.cons (Hold.cons ?_ (k.lt_ 2 rfl) (k.at_ 2 rfl)) (k.lt_ 1 rfl) (k.at_ 1 rfl)) (k.lt_ 0 rfl) (k.at_ 0 rfl)
    refine Hold.cons (Hold.cons (Hold.cons (Hold.cons (Hold.cons (Hold.nil k.1) (by simp) ((cell_of_row _ _ 2 _ _ _ (heap_alloc2_new w4 _ _)).trans rfl)) (by simp) ((cell_of_row _ _ 1 _ _ _ (heap_alloc2_new w4 _ _)).trans rfl)) (by simp) ((cell_of_row _ _ 0 _ _ _ (heap_alloc2_new w4 _ _)).trans rfl)) (by simp <;> omega) ((cell_of_row _ _ 1 _ _ _ (heap_alloc2_old w4 _ _)).trans rfl)) (by simp <;> omega) ((cell_of_row _ _ 0 _ _ _ (heap_alloc2_old w4 _ _)).trans rfl)
  clear hW hF hG hS4
  go_loopw [65] (fun i wr => ∃ k : Nat, k ≤ 3 ∧ i = .int .i64 k ∧ Hold w [(w.heap.size, 0, .int .i64 a), (w.heap.size, 1, .slice A n c), (w.heap.size, 2, .slice B m d), (F, 0, .int .i64 p), (F, 1, .int .i64 q), (G, 0, .int .i64 0), (G, 1, .int .i64 1), (G, 2, .int .i64 2)] wr) (fun i _ => 3 - (intOf i).toNat)
  case atStart => exact ⟨0, by omega, rfl, HS⟩
  case round =>
    clear HS
    obtain ⟨k, hk, rfl, HS⟩ := hrel
    by_cases hlt : k < 3
    · have hck : wr.cell? ⟨G, k, none⟩ = some (.int .i64 k) := by
        have h3 : k = 0 ∨ k = 1 ∨ k = 2 := by omega
        rcases h3 with rfl | rfl | rfl
        · exact HS.at_ 5 rfl
        · exact HS.at_ 6 rfl
        · exact HS.at_ 7 rfl
      obtain ⟨X, HX⟩ : ∃ v, Hid (sp1 p q a n m k = v) := ⟨_, rfl⟩
      obtain ⟨Y, HY⟩ : ∃ v, Hid (sp2 p q a n m k = v) := ⟨_, rfl⟩
      have hxy : 0 ≤ X ∧ X ≤ Y := by
        obtain ⟨e1, e2⟩ := sp_in p q a n m k (by omega) (by omega) (by omega) (by omega) (by omega)
        rw [← HX.out, ← HY.out, e1, e2]
        have h3 : k = 0 ∨ k = 1 ∨ k = 2 := by omega
        rcases h3 with rfl | rfl | rfl
        · have x1 : (((0 : Nat) : Int) == 2) = false := rfl
          have x2 : (((0 : Nat) : Int) != 1) = true := rfl
          rw [x1, x2, HP0.out, HQ1.out]; omega
        · have x1 : (((1 : Nat) : Int) == 2) = false := rfl
          have x2 : (((1 : Nat) : Int) != 1) = false := rfl
          rw [x1, x2, HP0.out, HQ0.out]; omega
        · have x1 : (((2 : Nat) : Int) == 2) = true := rfl
          have x2 : (((2 : Nat) : Int) != 1) = true := rfl
          rw [x1, x2, HP1.out, HQ1.out]; omega
      obtain ⟨hx0, hxy⟩ := hxy
      have z0 := HS.at_ 0 rfl
      have z1 := HS.at_ 1 rfl
      have z2 := HS.at_ 2 rfl
      have z3 := HS.at_ 3 rfl
      have z4 := HS.at_ 4 rfl
      go_wp2_with (go_at_call 11; (with_reducible refine (span_v _ _ _ _ _ _ _ _ _ _ X Y _ hn hm HX HY).mono ?_); rintro e w1 ⟨rfl, hb1⟩; have hS1 := HS.below hb1; clear hb1)
      go_roundw
      case rel => exact ⟨k + 1, by omega, by go_num, hS1.alloc _⟩
      case measure => simp [intOf]; omega
    · obtain ⟨e1, e2⟩ := sp_in p q a n m 1 (by omega) (by omega) (by omega) (by omega) (by omega)
      obtain ⟨e3, e4⟩ := sp_in q q a n m 2 (by omega) (by omega) (by omega) (by omega) (by omega)
      have x1 : (((1 : Int)) == 2) = false := rfl
      have x2 : (((1 : Int)) != 1) = false := rfl
      have x3 : (((2 : Int)) == 2) = true := rfl
      have x4 : (((2 : Int)) != 1) = true := rfl
      have HX : Hid (sp1 p q a n m 1 = P0) := by show _ = _; rw [e1, x1, HP0.out]
      have HY : Hid (sp2 p q a n m 1 = Q0) := by show _ = _; rw [e2, x2, HQ0.out]
      have HZ : Hid (sp1 q q a n m 2 = Q1) := by show _ = _; rw [e3, x3, HQ1.out]
      have HV : Hid (sp2 q q a n m 2 = Q1) := by show _ = _; rw [e4, x4, HQ1.out]
      clear e1 e2 e3 e4 x1 x2 x3 x4
      have z0 := HS.at_ 0 rfl
      have z1 := HS.at_ 1 rfl
      have z2 := HS.at_ 2 rfl
      have z3 := HS.at_ 3 rfl
      have z4 := HS.at_ 4 rfl
      have y0 := HS.lt_ 0 rfl
      have y3 := HS.lt_ 3 rfl
      go_upto_region 17 with fail
      go_cut [15, 16] (fun s15 s16 wx => ∃ b1 b2 : Nat, s15 = .pointer (some ⟨b1, 0, none⟩) ∧ s16 = .pointer (some ⟨b2, 0, none⟩) ∧ wx.cell? ⟨b1, 1, none⟩ = some (.int .i64 Q0) ∧ wx.cell? ⟨b2, 0, none⟩ = some (.int .i64 Q1) ∧ Below w.heap.size w wx)
      case first =>
        go_region_held3 (fun w' => w'.cell? ⟨w.heap.size, 0, none⟩ = some (.int .i64 a) ∧ w'.cell? ⟨w.heap.size, 1, none⟩ = some (.slice A n c) ∧ w'.cell? ⟨w.heap.size, 2, none⟩ = some (.slice B m d) ∧ w'.cell? ⟨F, 0, none⟩ = some (.int .i64 p) ∧ w'.cell? ⟨F, 1, none⟩ = some (.int .i64 q)) (simp [go_sem, *])
          (first
            | (go_at_call 11; (with_reducible refine (span_v p q a 1 n m _ _ _ _ P0 Q0 _ hn hm HX HY).mono ?_); rintro e w1 ⟨rfl, hb1⟩; have hS1 : Hold w [(w.heap.size, 0, .int .i64 a), (w.heap.size, 1, .slice A n c), (w.heap.size, 2, .slice B m d), (F, 0, .int .i64 p), (F, 1, .int .i64 q), (G, 0, .int .i64 0), (G, 1, .int .i64 1), (G, 2, .int .i64 2)] w1 := Hold.below (by first | exact HS.drew | exact HS.drew.alloc _ | exact (HS.drew.alloc _).alloc _) hb1; have c10 := hS1.at_ 0 rfl; have c11 := hS1.at_ 1 rfl; have c12 := hS1.at_ 2 rfl; have c13 := hS1.at_ 3 rfl; have c14 := hS1.at_ 4 rfl; have u1 := hS1.lt_ 0 rfl; have v1 := hS1.lt_ 3 rfl; have g1 := cells_of hb1; have g2 := frozens_of hb1; (try have q1 : wr.heap.size < w1.heap.size := (by have hz := hb1.size; simp at hz; omega)); (try have q2 : wr.heap.size + 1 < w1.heap.size := (by have hz := hb1.size; simp at hz; omega)); clear hb1)
            | (go_at_call 11; (with_reducible refine (span_v q q a 2 n m _ _ _ _ Q1 Q1 _ hn hm HZ HV).mono ?_); rintro e w2 ⟨rfl, hb2⟩; have hS2 : Hold w [(w.heap.size, 0, .int .i64 a), (w.heap.size, 1, .slice A n c), (w.heap.size, 2, .slice B m d), (F, 0, .int .i64 p), (F, 1, .int .i64 q), (G, 0, .int .i64 0), (G, 1, .int .i64 1), (G, 2, .int .i64 2)] w2 := Hold.below (by first | exact hS1 | exact hS1.alloc _ | exact (hS1.alloc _).alloc _) hb2; have c20 := hS2.at_ 0 rfl; have c21 := hS2.at_ 1 rfl; have c22 := hS2.at_ 2 rfl; have c23 := hS2.at_ 3 rfl; have c24 := hS2.at_ 4 rfl; have u2 := hS2.lt_ 0 rfl; have v2 := hS2.lt_ 3 rfl; have g3 := cells_of hb2; have g4 := frozens_of hb2; have hz2 := hb2.size; (try simp at hz2); (try have q3 : wr.heap.size < w2.heap.size := (by omega)); (try have q4 : wr.heap.size + 1 < w2.heap.size := (by omega)); (try have q5 : w1.heap.size < w2.heap.size := (by omega)); (try have q6 : w1.heap.size + 1 < w2.heap.size := (by omega)); clear hb2 hz2))
        all_goals
          go_wp2_with fail
          go_meet
          have hz2 := hS2.size
          clear z0 z1 z2 z3 z4 HX HY HZ HV hS1 c10 c11 c12 c13 c14 c20 c21 c22 c23 c24 HS hn hm ha hp hq hpq
          refine ⟨_, _, rfl, rfl, ?_, ?_, ?_⟩
          · (simp [go_sem, *]) <;> exact World.cell?_setCell_same' _ _ _ (by simp [go_sem, *])
          · (simp [go_sem, *]) <;> exact World.cell?_setCell_same' _ _ _ (by simp [go_sem, *])
          · repeat (first | exact hS2.bel | refine below_drewN ?_ _ | refine Below.drew ?_ | refine Below.alloc ?_ (by first | omega | (simp <;> omega)) _ | refine Below.setCell ?_ (by first | omega | (simp <;> omega)) _)
      case rest =>
        clear z0 z1 z2 z3 z4 y0 y3 HX HY HZ HV
        obtain ⟨b1, b2, rfl, rfl, e1, e2, hbel⟩ := hcut
        go_wp2_with (go_at_call 14; (with_reducible refine (known_any _).mono ?_); rintro e w9 ⟨rfl, hb9⟩)
        go_ret
        exact ⟨rfl, hbel.trans (hb9.mono hbel.size)⟩

set_option maxRecDepth 100000 in
set_option maxHeartbeats 8000000 in
theorem orders_gt (a0 x y : Int) (A B : Option Addr) (n c m d : Nat) (w : World) (hn : n ≤ 70368744177664) (hm : m ≤ 70368744177664) (a p q : Nat) (Ha : Hid (idx a0 500 = a)) (Hp : Hid (idx x 1000 = p)) (Hq : Hid (idx y 1000 = q))
    (ha : a < 500) (hp : p < 1000) (hq : q < 1000) (hpq : q < p) :
    Calls Try.prog 6 #[.agg #[.int .i64 a0, .slice A n c, .slice B m d], .int .i64 x, .int .i64 y] w fun e w' => e = .returned (.bool true) ∧ Below w.heap.size w w' := by
  obtain ⟨P0, HP0⟩ : ∃ v, Hid (plc q a n m false = v) := ⟨_, rfl⟩
  obtain ⟨P1, HP1⟩ : ∃ v, Hid (plc q a n m true = v) := ⟨_, rfl⟩
  obtain ⟨Q0, HQ0⟩ : ∃ v, Hid (plc p a n m false = v) := ⟨_, rfl⟩
  obtain ⟨Q1, HQ1⟩ : ∃ v, Hid (plc p a n m true = v) := ⟨_, rfl⟩
  have l1 : P0 ≤ P1 := by rw [← HP0.out, ← HP1.out]; exact plc_right _ _ _ _
  have l2 : Q0 ≤ Q1 := by rw [← HQ0.out, ← HQ1.out]; exact plc_right _ _ _ _
  have l3 : P0 ≤ Q0 := by rw [← HP0.out, ← HQ0.out]; exact plc_mono _ _ _ _ _ _ (by omega) (by omega) (by omega)
  have l4 : P1 ≤ Q1 := by rw [← HP1.out, ← HQ1.out]; exact plc_mono _ _ _ _ _ _ (by omega) (by omega) (by omega)
  have l5 : 0 ≤ P0 := by rw [← HP0.out]; exact plc_nonneg _ _ _ _ _
  go_enter Try.func6, Try.ntmps6
  go_wp2_with (first
    | (go_at_call 16; (with_reducible refine (index_500 a0 a Ha _).mono ?_); rintro e w' ⟨rfl, rfl⟩)
    | (go_at_call 16; (with_reducible refine (index_1000 x p Hp _).mono ?_); rintro e w' ⟨rfl, rfl⟩)
    | (go_at_call 16; (with_reducible refine (index_1000 y q Hq _).mono ?_); rintro e w' ⟨rfl, rfl⟩))
  obtain ⟨W, hW⟩ : ∃ W, W = w.alloc (.cells #[.int .i64 a, .slice A n c, .slice B m d] 24) := ⟨_, rfl⟩
  rw [← hW]
  have HS : Hold w [(w.heap.size, 0, .int .i64 a), (w.heap.size, 1, .slice A n c), (w.heap.size, 2, .slice B m d)] W := by
    subst hW
    refine Hold.cons (Hold.cons (Hold.cons (Hold.nil ((Below.refl _ _).alloc (Nat.le_refl _) _)) (by simp) (by simp [go_sem])) (by simp) (by simp [go_sem])) (by simp) (by simp [go_sem])
  clear hW
  go_region_held3 (fun w' => w'.cell? ⟨w.heap.size, 0, none⟩ = some (.int .i64 a) ∧ w'.cell? ⟨w.heap.size, 1, none⟩ = some (.slice A n c) ∧ w'.cell? ⟨w.heap.size, 2, none⟩ = some (.slice B m d)) (first | exact ⟨hS2.at_ 0 rfl, hS2.at_ 1 rfl, hS2.at_ 2 rfl⟩ | exact ⟨hS1.at_ 0 rfl, hS1.at_ 1 rfl, hS1.at_ 2 rfl⟩ | exact ⟨HS.at_ 0 rfl, HS.at_ 1 rfl, HS.at_ 2 rfl⟩)
    (first
      | (go_at_call 9; (with_reducible refine (place_v q a n m _ _ _ _ false P0 _ hn hm HP0).mono ?_); rintro e w1 ⟨rfl, hb1⟩; have hS1 := HS.drew.below hb1; clear hb1)
      | (go_at_call 9; (with_reducible refine (place_v q a n m _ _ _ _ true P1 _ hn hm HP1).mono ?_); rintro e w2 ⟨rfl, hb2⟩; have hS2 := hS1.below hb2; clear hb2))
  go_wp2
  clear hS1 HS
  go_region_held3 (fun w' => w'.cell? ⟨w.heap.size, 0, none⟩ = some (.int .i64 a) ∧ w'.cell? ⟨w.heap.size, 1, none⟩ = some (.slice A n c) ∧ w'.cell? ⟨w.heap.size, 2, none⟩ = some (.slice B m d)) (first | exact ⟨hS4.at_ 0 rfl, hS4.at_ 1 rfl, hS4.at_ 2 rfl⟩ | exact ⟨hS3.at_ 0 rfl, hS3.at_ 1 rfl, hS3.at_ 2 rfl⟩ | exact ⟨hS2.at_ 0 rfl, hS2.at_ 1 rfl, hS2.at_ 2 rfl⟩)
    (first
      | (go_at_call 9; (with_reducible refine (place_v p a n m _ _ _ _ false Q0 _ hn hm HQ0).mono ?_); rintro e w3 ⟨rfl, hb1⟩; have hS3 := hS2.drew.below hb1; clear hb1)
      | (go_at_call 9; (with_reducible refine (place_v p a n m _ _ _ _ true Q1 _ hn hm HQ1).mono ?_); rintro e w4 ⟨rfl, hb2⟩; have hS4 := hS3.below hb2; clear hb2))
  clear hS2 hS3
  go_wp2
  obtain ⟨F, hF⟩ : ∃ F, F = w4.heap.size := ⟨_, rfl⟩
  obtain ⟨G, hG⟩ : ∃ G, G = w4.heap.size + 1 := ⟨_, rfl⟩
  obtain ⟨W, hW⟩ : ∃ W, W = (w4.alloc (.cells #[.int .i64 q, .int .i64 p] 26)).alloc (.cells #[.int .i64 0, .int .i64 1, .int .i64 2] 3) := ⟨_, rfl⟩
  rw [← hW, ← hG, ← hF]
  have HS : Hold w [(w.heap.size, 0, .int .i64 a), (w.heap.size, 1, .slice A n c), (w.heap.size, 2, .slice B m d), (F, 0, .int .i64 q), (F, 1, .int .i64 p), (G, 0, .int .i64 0), (G, 1, .int .i64 1), (G, 2, .int .i64 2)] W := by
    subst hW; subst hF; subst hG
    have k := (hS4.alloc (.cells #[.int .i64 q, .int .i64 p] 26)).alloc (.cells #[.int .i64 0, .int .i64 1, .int .i64 2] 3)
    refine Hold.cons (Hold.cons (Hold.cons ?_ (k.lt_ 2 rfl) (k.at_ 2 rfl)) (k.lt_ 1 rfl) (k.at_ 1 rfl)) (k.lt_ 0 rfl) (k.at_ 0 rfl)
    refine Hold.cons (Hold.cons (Hold.cons (Hold.cons (Hold.cons (Hold.nil k.1) (by simp) ((cell_of_row _ _ 2 _ _ _ (heap_alloc2_new w4 _ _)).trans rfl)) (by simp) ((cell_of_row _ _ 1 _ _ _ (heap_alloc2_new w4 _ _)).trans rfl)) (by simp) ((cell_of_row _ _ 0 _ _ _ (heap_alloc2_new w4 _ _)).trans rfl)) (by simp <;> omega) ((cell_of_row _ _ 1 _ _ _ (heap_alloc2_old w4 _ _)).trans rfl)) (by simp <;> omega) ((cell_of_row _ _ 0 _ _ _ (heap_alloc2_old w4 _ _)).trans rfl)
  clear hW hF hG hS4
  go_loopw [65] (fun i wr => ∃ k : Nat, k ≤ 3 ∧ i = .int .i64 k ∧ Hold w [(w.heap.size, 0, .int .i64 a), (w.heap.size, 1, .slice A n c), (w.heap.size, 2, .slice B m d), (F, 0, .int .i64 q), (F, 1, .int .i64 p), (G, 0, .int .i64 0), (G, 1, .int .i64 1), (G, 2, .int .i64 2)] wr) (fun i _ => 3 - (intOf i).toNat)
  case atStart => exact ⟨0, by omega, rfl, HS⟩
  case round =>
    clear HS
    obtain ⟨k, hk, rfl, HS⟩ := hrel
    by_cases hlt : k < 3
    · have hck : wr.cell? ⟨G, k, none⟩ = some (.int .i64 k) := by
        have h3 : k = 0 ∨ k = 1 ∨ k = 2 := by omega
        rcases h3 with rfl | rfl | rfl
        · exact HS.at_ 5 rfl
        · exact HS.at_ 6 rfl
        · exact HS.at_ 7 rfl
      obtain ⟨X, HX⟩ : ∃ v, Hid (sp1 q p a n m k = v) := ⟨_, rfl⟩
      obtain ⟨Y, HY⟩ : ∃ v, Hid (sp2 q p a n m k = v) := ⟨_, rfl⟩
      have hxy : 0 ≤ X ∧ X ≤ Y := by
        obtain ⟨e1, e2⟩ := sp_in q p a n m k (by omega) (by omega) (by omega) (by omega) (by omega)
        rw [← HX.out, ← HY.out, e1, e2]
        have h3 : k = 0 ∨ k = 1 ∨ k = 2 := by omega
        rcases h3 with rfl | rfl | rfl
        · have x1 : (((0 : Nat) : Int) == 2) = false := rfl
          have x2 : (((0 : Nat) : Int) != 1) = true := rfl
          rw [x1, x2, HP0.out, HQ1.out]; omega
        · have x1 : (((1 : Nat) : Int) == 2) = false := rfl
          have x2 : (((1 : Nat) : Int) != 1) = false := rfl
          rw [x1, x2, HP0.out, HQ0.out]; omega
        · have x1 : (((2 : Nat) : Int) == 2) = true := rfl
          have x2 : (((2 : Nat) : Int) != 1) = true := rfl
          rw [x1, x2, HP1.out, HQ1.out]; omega
      obtain ⟨hx0, hxy⟩ := hxy
      have z0 := HS.at_ 0 rfl
      have z1 := HS.at_ 1 rfl
      have z2 := HS.at_ 2 rfl
      have z3 := HS.at_ 3 rfl
      have z4 := HS.at_ 4 rfl
      go_wp2_with (go_at_call 11; (with_reducible refine (span_v _ _ _ _ _ _ _ _ _ _ X Y _ hn hm HX HY).mono ?_); rintro e w1 ⟨rfl, hb1⟩; have hS1 := HS.below hb1; clear hb1)
      go_roundw
      case rel => exact ⟨k + 1, by omega, by go_num, hS1.alloc _⟩
      case measure => simp [intOf]; omega
    · obtain ⟨e1, e2⟩ := sp_in q p a n m 1 (by omega) (by omega) (by omega) (by omega) (by omega)
      obtain ⟨e3, e4⟩ := sp_in p p a n m 2 (by omega) (by omega) (by omega) (by omega) (by omega)
      have x1 : (((1 : Int)) == 2) = false := rfl
      have x2 : (((1 : Int)) != 1) = false := rfl
      have x3 : (((2 : Int)) == 2) = true := rfl
      have x4 : (((2 : Int)) != 1) = true := rfl
      have HX : Hid (sp1 q p a n m 1 = P0) := by show _ = _; rw [e1, x1, HP0.out]
      have HY : Hid (sp2 q p a n m 1 = Q0) := by show _ = _; rw [e2, x2, HQ0.out]
      have HZ : Hid (sp1 p p a n m 2 = Q1) := by show _ = _; rw [e3, x3, HQ1.out]
      have HV : Hid (sp2 p p a n m 2 = Q1) := by show _ = _; rw [e4, x4, HQ1.out]
      clear e1 e2 e3 e4 x1 x2 x3 x4
      have z0 := HS.at_ 0 rfl
      have z1 := HS.at_ 1 rfl
      have z2 := HS.at_ 2 rfl
      have z3 := HS.at_ 3 rfl
      have z4 := HS.at_ 4 rfl
      have y0 := HS.lt_ 0 rfl
      have y3 := HS.lt_ 3 rfl
      go_upto_region 17 with fail
      go_cut [15, 16] (fun s15 s16 wx => ∃ b1 b2 : Nat, s15 = .pointer (some ⟨b1, 0, none⟩) ∧ s16 = .pointer (some ⟨b2, 0, none⟩) ∧ wx.cell? ⟨b1, 1, none⟩ = some (.int .i64 Q0) ∧ wx.cell? ⟨b2, 0, none⟩ = some (.int .i64 Q1) ∧ Below w.heap.size w wx)
      case first =>
        go_region_held3 (fun w' => w'.cell? ⟨w.heap.size, 0, none⟩ = some (.int .i64 a) ∧ w'.cell? ⟨w.heap.size, 1, none⟩ = some (.slice A n c) ∧ w'.cell? ⟨w.heap.size, 2, none⟩ = some (.slice B m d) ∧ w'.cell? ⟨F, 0, none⟩ = some (.int .i64 q) ∧ w'.cell? ⟨F, 1, none⟩ = some (.int .i64 p)) (simp [go_sem, *])
          (first
            | (go_at_call 11; (with_reducible refine (span_v q p a 1 n m _ _ _ _ P0 Q0 _ hn hm HX HY).mono ?_); rintro e w1 ⟨rfl, hb1⟩; have hS1 : Hold w [(w.heap.size, 0, .int .i64 a), (w.heap.size, 1, .slice A n c), (w.heap.size, 2, .slice B m d), (F, 0, .int .i64 q), (F, 1, .int .i64 p), (G, 0, .int .i64 0), (G, 1, .int .i64 1), (G, 2, .int .i64 2)] w1 := Hold.below (by first | exact HS.drew | exact HS.drew.alloc _ | exact (HS.drew.alloc _).alloc _) hb1; have c10 := hS1.at_ 0 rfl; have c11 := hS1.at_ 1 rfl; have c12 := hS1.at_ 2 rfl; have c13 := hS1.at_ 3 rfl; have c14 := hS1.at_ 4 rfl; have u1 := hS1.lt_ 0 rfl; have v1 := hS1.lt_ 3 rfl; have g1 := cells_of hb1; have g2 := frozens_of hb1; (try have q1 : wr.heap.size < w1.heap.size := (by have hz := hb1.size; simp at hz; omega)); (try have q2 : wr.heap.size + 1 < w1.heap.size := (by have hz := hb1.size; simp at hz; omega)); clear hb1)
            | (go_at_call 11; (with_reducible refine (span_v p p a 2 n m _ _ _ _ Q1 Q1 _ hn hm HZ HV).mono ?_); rintro e w2 ⟨rfl, hb2⟩; have hS2 : Hold w [(w.heap.size, 0, .int .i64 a), (w.heap.size, 1, .slice A n c), (w.heap.size, 2, .slice B m d), (F, 0, .int .i64 q), (F, 1, .int .i64 p), (G, 0, .int .i64 0), (G, 1, .int .i64 1), (G, 2, .int .i64 2)] w2 := Hold.below (by first | exact hS1 | exact hS1.alloc _ | exact (hS1.alloc _).alloc _) hb2; have c20 := hS2.at_ 0 rfl; have c21 := hS2.at_ 1 rfl; have c22 := hS2.at_ 2 rfl; have c23 := hS2.at_ 3 rfl; have c24 := hS2.at_ 4 rfl; have u2 := hS2.lt_ 0 rfl; have v2 := hS2.lt_ 3 rfl; have g3 := cells_of hb2; have g4 := frozens_of hb2; have hz2 := hb2.size; (try simp at hz2); (try have q3 : wr.heap.size < w2.heap.size := (by omega)); (try have q4 : wr.heap.size + 1 < w2.heap.size := (by omega)); (try have q5 : w1.heap.size < w2.heap.size := (by omega)); (try have q6 : w1.heap.size + 1 < w2.heap.size := (by omega)); clear hb2 hz2))
        all_goals
          go_wp2_with fail
          go_meet
          have hz2 := hS2.size
          clear z0 z1 z2 z3 z4 HX HY HZ HV hS1 c10 c11 c12 c13 c14 c20 c21 c22 c23 c24 HS hn hm ha hp hq hpq
          refine ⟨_, _, rfl, rfl, ?_, ?_, ?_⟩
          · (simp [go_sem, *]) <;> exact World.cell?_setCell_same' _ _ _ (by simp [go_sem, *])
          · (simp [go_sem, *]) <;> exact World.cell?_setCell_same' _ _ _ (by simp [go_sem, *])
          · repeat (first | exact hS2.bel | refine below_drewN ?_ _ | refine Below.drew ?_ | refine Below.alloc ?_ (by first | omega | (simp <;> omega)) _ | refine Below.setCell ?_ (by first | omega | (simp <;> omega)) _)
      case rest =>
        clear z0 z1 z2 z3 z4 y0 y3 HX HY HZ HV
        obtain ⟨b1, b2, rfl, rfl, e1, e2, hbel⟩ := hcut
        go_wp2_with (go_at_call 14; (with_reducible refine (known_any _).mono ?_); rintro e w9 ⟨rfl, hb9⟩)
        go_ret
        exact ⟨rfl, hbel.trans (hb9.mono hbel.size)⟩

theorem orders_any (a0 x y : Int) (A B : Option Addr) (n c m d : Nat) (w : World) (hn : n ≤ 70368744177664) (hm : m ≤ 70368744177664) :
    Calls Try.prog 6 #[.agg #[.int .i64 a0, .slice A n c, .slice B m d], .int .i64 x, .int .i64 y] w fun e w' => e = .returned (.bool true) ∧ Below w.heap.size w w' := by
  obtain ⟨a, Ha⟩ : ∃ a, Hid (idx a0 500 = a) := ⟨_, rfl⟩
  obtain ⟨p, Hp⟩ : ∃ p, Hid (idx x 1000 = p) := ⟨_, rfl⟩
  obtain ⟨q, Hq⟩ : ∃ q, Hid (idx y 1000 = q) := ⟨_, rfl⟩
  have ha : a < 500 := by rw [← Ha.out]; exact idx_lt _ _ (by decide)
  have hp : p < 1000 := by rw [← Hp.out]; exact idx_lt _ _ (by decide)
  have hq : q < 1000 := by rw [← Hq.out]; exact idx_lt _ _ (by decide)
  by_cases hpq : p ≤ q
  · exact orders_le a0 x y A B n c m d w hn hm a p q Ha Hp Hq ha hp hq hpq
  · exact orders_gt a0 x y A B n c m d w hn hm a p q Ha Hp Hq ha hp hq (by omega)
end Go.Proofs.Ytlhhefijkbkcnaa
