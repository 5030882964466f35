/- The walk of GravitySigns. -/
import Derived.Test.YtlhhefijkbkcnaaI
namespace Go.Proofs.Ytlhhefijkbkcnaa
open Go.RowKit

theorem place_w (p a : Int) (n m : Nat) (A B : Option Addr) (c d : Nat) (r : Bool) (v : Int) (w : World) (hn : n ≤ 70368744177664) (hm : m ≤ 70368744177664) (hv : Hid (plc p a n m r = v)) :
    Calls Try.prog 9 #[.int .i64 p, .agg #[.int .i64 a, .slice A n c, .slice B m d], .bool r] w fun e w' => e = .returned (.int .i64 v) ∧ Below w.heap.size w w' := by
  have h := hv.out; subst h; exact place_b p a n m A B c d r w hn hm
theorem span_w (f t a how : Int) (n m : Nat) (A B : Option Addr) (c d : Nat) (x y : Int) (w : World) (hn : n ≤ 70368744177664) (hm : m ≤ 70368744177664) (hx : Hid (sp1 f t a n m how = x)) (hy : Hid (sp2 f t a n m how = y)) :
    Calls Try.prog 11 #[.agg #[.int .i64 f, .int .i64 t], .agg #[.int .i64 a, .slice A n c, .slice B m d], .int .i64 how] w fun e w' => e = .returned (.agg #[.int .i64 x, .int .i64 y]) ∧ Below w.heap.size w w' := by
  have h := hx.out; subst h; have h := hy.out; subst h; exact span_any f t a how n m A B c d w hn hm
theorem cut_200 (A : Option Addr) (n c k : Nat) (hc : n ≤ c) (hk : Hid (min n 200 = k)) (w : World) :
    Calls Try.prog 15 #[.slice A n c, .int .i64 200] w fun e w' => e = .returned (.slice A k c) ∧ w = w' := by
  have h := hk.out; subst h; exact cut_any A n c 200 hc w
theorem index_p (x : Int) (n a : Nat) (hn : n ≤ 200) (ha : Hid (idx x (n + 1) = a)) (w : World) :
    Calls Try.prog 16 #[.int .i64 x, .int .i64 ((n : Int) + 1)] w fun e w' => e = .returned (.int .i64 a) ∧ w = w' := index_is x (n + 1) (by omega) (by omega) a ha w
theorem index_q (x : Int) (n a k : Nat) (hn : n ≤ 200) (han : a ≤ n) (hk : Hid (idx x (n - a + 1) = k)) (w : World) :
    Calls Try.prog 16 #[.int .i64 x, .int .i64 ((n : Int) - (a : Int) + 1)] w fun e w' => e = .returned (.int .i64 k) ∧ w = w' := by
  have h := index_is x (n - a + 1) (by omega) (by omega) k hk w
  rwa [show (((n - a + 1 : Nat) : Int)) = (n : Int) - (a : Int) + 1 from by omega] at h

/-- Where an element that stays is then. -/
def then_ (i a k m : Nat) : Nat := if i < a then i else i + m - k
theorem plc_then (i a k m : Nat) (h : i < a ∨ a + k ≤ i) (hi : i ≤ 1000) (ha : a ≤ 1000) : plc i a k m true = then_ i a k m := by
  unfold plc then_
  (repeat' split) <;> first | omega | simp_all
theorem then_at (xs ys : List Int) (i a k : Nat) (h : i < a ∨ a + k ≤ i) (hi : i < xs.length) (ha : a + k ≤ xs.length) :
    (xs.take a ++ ys ++ xs.drop (a + k)).getD (then_ i a k ys.length) 0 = xs.getD i 0 := by
  unfold then_
  by_cases h1 : i < a
  · rw [if_pos h1]
    simp only [List.getD, List.append_assoc]
    rw [List.getElem?_append_left (by simp; omega), List.getElem?_take, if_pos h1]
  · rw [if_neg h1]
    simp only [List.getD]
    rw [List.getElem?_append_right (by simp; omega), List.getElem?_drop]
    congr 2
    simp
    omega

/-- What stays while the law asks. -/
def SG (w : World) (a k m c d L c3 : Nat) (A2 B A3 : Option Addr) (ts : List Int) (W : World) : Prop :=
  Hold w [(w.heap.size, 0, .int .i64 a), (w.heap.size, 1, .slice A2 k c), (w.heap.size, 2, .slice B m d)] W ∧ ∃ b, W.ownsRow b 21 1 (.slice A3 L c3) L (ts.map (Value.int .i32))
theorem SG.below {w : World} {a k m c d L c3 : Nat} {A2 B A3 : Option Addr} {ts : List Int} {W W' : World} (h : SG w a k m c d L c3 A2 B A3 ts W) (hb : Below W.heap.size W W') : SG w a k m c d L c3 A2 B A3 ts W' := by
  obtain ⟨h1, b, h2⟩ := h
  exact ⟨h1.below hb, b, own_below h2 hb fun k hk => (h2.lt k hk).2⟩
theorem SG.drewN {w : World} {a k m c d L c3 : Nat} {A2 B A3 : Option Addr} {ts : List Int} {W : World} (h : SG w a k m c d L c3 A2 B A3 ts W) (j : Nat) : SG w a k m c d L c3 A2 B A3 ts (W.drewN j) := h.below (below_drewN (Below.refl _ _) j)
theorem SG.reads {w : World} {a k m c d L c3 : Nat} {A2 B A3 : Option Addr} {ts : List Int} {W : World} (h : SG w a k m c d L c3 A2 B A3 ts W) : Rds W W.heap.size 1 A3 L (ts.map (Value.int .i32)) := by
  obtain ⟨_, b, h2⟩ := h
  exact Rds.of_own h2

set_option maxRecDepth 100000 in
set_option maxHeartbeats 2000000 in
theorem signs_any (x y : Int) (A B : Option Addr) (n0 c m d : Nat) (xs0 ys : List Int) (w : World) (hx0 : Rds w w.heap.size 1 A n0 (xs0.map (Value.int .i32))) (hy0 : Rds w w.heap.size 1 B m (ys.map (Value.int .i32)))
    (hc : n0 ≤ c) (hm4 : m * 4 ≤ 140737488351232) :
    Calls Try.prog 7 #[.slice A n0 c, .int .i64 x, .int .i64 y, .slice B m d] w fun e w' => e = .returned (.bool true) ∧ Below w.heap.size w w' := by
  obtain ⟨n, Hn⟩ : ∃ n, Hid (min n0 200 = n) := ⟨_, rfl⟩
  have hn0 : n ≤ n0 := by rw [← Hn.out]; omega
  have hn : n ≤ 200 := by rw [← Hn.out]; omega
  obtain ⟨a, Ha⟩ : ∃ a, Hid (idx x (n + 1) = a) := ⟨_, rfl⟩
  have ha : a ≤ n := by rw [← Ha.out]; have := idx_lt x (n + 1) (by omega); omega
  obtain ⟨k, Hk⟩ : ∃ k, Hid (idx y (n - a + 1) = k) := ⟨_, rfl⟩
  have hk : a + k ≤ n := by have h := Hk.out; have := idx_lt y (n - a + 1) (by omega); omega
  obtain ⟨xs, hxs⟩ : ∃ xs, xs = xs0.take n := ⟨_, rfl⟩
  have hx1 : Rds w w.heap.size 1 A n (xs.map (Value.int .i32)) := by
    have h := hx0.front hn0
    rw [Nat.mul_one, ← List.map_take, ← hxs] at h
    exact h
  clear hxs hx0
  have lx := hx1.int_len
  have ly := hy0.int_len
  have Lx := Lib.hid lx
  have Ly := Lib.hid ly
  clear lx ly
  have hx : ∀ W, Below w.heap.size w W → Rds W W.heap.size 1 A n (xs.map (Value.int .i32)) := fun W hb => (hx1.below hb).more hb.size
  have hy : ∀ W, Below w.heap.size w W → Rds W W.heap.size 1 B m (ys.map (Value.int .i32)) := fun W hb => (hy0.below hb).more hb.size
  clear hx1 hy0
  obtain ⟨A2, hs2, _⟩ := slice_mid A n c a (a + k) (by omega) hk (by omega)
  have hs2' : ∀ w, (Instr.slice 22 (.slice A n c) (some (.int .i64 (a : Int))) (some (.int .i64 ((a : Int) + (k : Int)))) none).run Try.prog w = .ok (.slice A2 k (c - a)) w := fun w => by
    have h := hs2 w
    rwa [show (((a + k : Nat) : Int)) = (a : Int) + (k : Int) from by omega, show a + k - a = k from by omega] at h
  clear hs2
  have hnc : n ≤ c := by omega
  have hmm : m ≤ 70368744177664 := by omega
  have hkk : k ≤ 70368744177664 := by omega
  have hroom : (n + m) * 4 ≤ 140737488355328 := by omega
  go_enter Try.func7, Try.ntmps7
  go_wp2_with (first
    | (go_at_call 15; (with_reducible refine (cut_200 A n0 c n hc Hn _).mono ?_); rintro e w' ⟨rfl, rfl⟩)
    | (go_at_call 16; (with_reducible refine (index_p x n a hn Ha _).mono ?_); rintro e w' ⟨rfl, rfl⟩)
    | (go_at_call 16; (with_reducible refine (index_q y n a k hn ha Hk _).mono ?_); rintro e w' ⟨rfl, rfl⟩)
    | (go_at_call 17; (with_reducible refine (splice_any A B n c m d a k xs ys _ (hx _ ((Below.refl _ _).alloc (Nat.le_refl _) _)) (hy _ ((Below.refl _ _).alloc (Nat.le_refl _) _)) hnc hk hroom).mono ?_); rintro e w1 ⟨v1, rfl, hown1, hb1⟩))
  obtain ⟨L, hL⟩ : ∃ L, L = n - k + m := ⟨_, rfl⟩
  rw [← hL] at hown1
  obtain ⟨A3, c3, rfl, hL3, hc3⟩ := own_form hown1
  obtain ⟨ts, hts⟩ : ∃ ts, ts = xs.take a ++ ys ++ xs.drop (a + k) := ⟨_, rfl⟩
  rw [← hts] at hown1
  have hS : SG w a k m (c - a) d L c3 A2 B A3 ts w1 := by
    refine ⟨Hold.below ?_ hb1, _, hown1⟩
    refine Hold.cons (Hold.cons (Hold.cons (Hold.nil ((Below.refl _ _).alloc (Nat.le_refl _) _)) (by simp) ((cell_of_row _ _ 2 _ _ _ (heap_alloc_new w _)).trans rfl)) (by simp) ((cell_of_row _ _ 1 _ _ _ (heap_alloc_new w _)).trans rfl)) (by simp) ((cell_of_row _ _ 0 _ _ _ (heap_alloc_new w _)).trans rfl)
  have HL := Lib.hid hL
  have Hts := Lib.hid hts
  have hLi : (L : Int) = (n : Int) + (m : Int) - (k : Int) := by omega
  have HLi := Lib.hid hLi
  have hLm : L ≤ 70368744177664 := by omega
  clear hL hts hLi hown1 hb1
  go_loopw [46] (fun i wr => ∃ j : Nat, j ≤ n ∧ i = .int .i64 j ∧ SG w a k m (c - a) d L c3 A2 B A3 ts wr) (fun i _ => n - (intOf i).toNat)
  case atStart => exact ⟨0, by omega, rfl, hS⟩
  case round =>
    clear hS
    obtain ⟨j, hj, rfl, HS⟩ := hrel
    by_cases hlt : j < n
    · by_cases hin : a ≤ j ∧ j < a + k
      · obtain ⟨hin1, hin2⟩ := hin
        go_wp2
        go_roundw
        case rel => exact ⟨j + 1, by omega, by go_num, HS⟩
        case measure => simp [intOf]; omega
      · have hout : j < a ∨ a + k ≤ j := by omega
        obtain ⟨t, ht⟩ : ∃ t, t = then_ j a k m := ⟨_, rfl⟩
        have Hp : Hid (plc j a k m true = t) := by show _ = _; rw [ht]; exact plc_then j a k m hout (by omega) (by omega)
        have htL : t < L := by
          have h := HL.out
          rw [ht]; unfold then_; split <;> omega
        have hte : ts.getD t 0 = xs.getD j 0 := by
          have h := then_at xs ys j a k hout (by rw [Lx.out]; exact hlt) (by rw [Lx.out]; exact hk)
          rw [Ly.out, ← ht, ← Hts.out] at h
          exact h
        have Hte := Lib.hid hte
        clear hte ht
        have z0 := HS.1.at_ 0 rfl
        have z1 := HS.1.at_ 1 rfl
        have z2 := HS.1.at_ 2 rfl
        by_cases hja : j < a
        · go_wp2_with (go_at_call 9; (with_reducible refine (place_w _ _ _ _ _ _ _ _ _ t _ hkk hmm Hp).mono ?_); rintro e w2 ⟨rfl, hb2⟩; have hS2 := HS.below hb2; clear hb2)
          obtain ⟨ad, u, rfl, _, hcu, Hu⟩ := hS2.reads.int_at htL
          obtain ⟨ad2, u2, rfl, _, hcu2, Hu2⟩ := (hx _ hS2.1.bel).int_at hlt
          have huu : u = u2 := by rw [Hu.out, Hu2.out, Hte.out]
          subst huu
          go_quiet (fail)
          go_wp2
          go_roundw
          case rel => exact ⟨j + 1, by omega, by go_num, hS2.drewN _⟩
          case measure => simp [intOf]; omega
        · have hja2 : a ≤ j := by omega
          have hja3 : a + k ≤ j := by omega
          go_wp2_with (go_at_call 9; (with_reducible refine (place_w _ _ _ _ _ _ _ _ _ t _ hkk hmm Hp).mono ?_); rintro e w2 ⟨rfl, hb2⟩; have hS2 := HS.below hb2; clear hb2)
          obtain ⟨ad, u, rfl, _, hcu, Hu⟩ := hS2.reads.int_at htL
          obtain ⟨ad2, u2, rfl, _, hcu2, Hu2⟩ := (hx _ hS2.1.bel).int_at hlt
          have huu : u = u2 := by rw [Hu.out, Hu2.out, Hte.out]
          subst huu
          go_quiet (fail)
          go_wp2
          go_roundw
          case rel => exact ⟨j + 1, by omega, by go_num, hS2.drewN _⟩
          case measure => simp [intOf]; omega
    · have hzz : ∀ W, SG w a k m (c - a) d L c3 A2 B A3 ts W → W.cell? ⟨w.heap.size, 0, none⟩ = some (.int .i64 a) ∧ W.cell? ⟨w.heap.size, 1, none⟩ = some (.slice A2 k (c - a)) ∧ W.cell? ⟨w.heap.size, 2, none⟩ = some (.slice B m d) := fun W h => ⟨h.1.at_ 0 rfl, h.1.at_ 1 rfl, h.1.at_ 2 rfl⟩
      have Hz := Lib.hid hzz
      clear hzz
      have x0 : (((0 : Int)) == 2) = false := rfl
      have x1 : (((0 : Int)) != 1) = true := rfl
      have HX : Hid (sp1 a ((a : Int) + k) a k m 0 = a) := by
        show _ = _
        unfold sp1; rw [if_neg (by omega), x0]; unfold plc; (repeat' split) <;> first | omega | simp_all
      have HY : Hid (sp2 a ((a : Int) + k) a k m 0 = (a : Int) + m) := by
        show _ = _
        unfold sp2; rw [if_neg (by omega), x1]; unfold plc; (repeat' split) <;> first | omega | simp_all
      have HZ : Hid (sp1 0 n a k m 0 = 0) := by
        show _ = _
        unfold sp1; rw [if_neg (by omega), x0]; unfold plc; (repeat' split) <;> first | omega | simp_all
      have HV : Hid (sp2 0 n a k m 0 = L) := by
        show _ = _
        have h := HLi.out
        unfold sp2; rw [if_neg (by omega), x1]; unfold plc; (repeat' split) <;> first | omega | simp_all
      clear x0 x1
      obtain ⟨z0, z1, z2⟩ := Hz.out _ HS
      go_wp2_with (first
        | (go_at_call 11; (with_reducible refine (span_w a ((a : Int) + k) a 0 k m _ _ _ _ a ((a : Int) + m) _ hkk hmm HX HY).mono ?_); rintro e w2 ⟨rfl, hb2⟩; have hS2 := HS.below hb2; obtain ⟨y0, y1, y2⟩ := Hz.out _ hS2; have hl2 := hS2.1.lt_ 0 rfl; clear hb2)
        | (go_at_call 11; (with_reducible refine (span_w 0 n a 0 k m _ _ _ _ 0 L _ hkk hmm HZ HV).mono ?_); rintro e w3 ⟨rfl, hb3⟩; have hS3 := (hS2.below ((Below.refl _ _).alloc (Nat.le_refl _) _)).below hb3; clear hb3)
        | (go_at_call 14; (with_reducible refine (known_any _).mono ?_); rintro e w4 ⟨rfl, hb4⟩))
      go_ret
      exact ⟨rfl, hS3.1.bel.trans (hb4.mono hS3.1.size)⟩
end Go.Proofs.Ytlhhefijkbkcnaa
