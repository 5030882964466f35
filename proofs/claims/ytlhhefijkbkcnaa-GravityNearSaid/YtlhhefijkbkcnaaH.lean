/- The walk of GravityNear. -/
import Derived.Test.YtlhhefijkbkcnaaF
import Derived.Test.YtlhhefijkbkcnaaHold
namespace Go.Proofs.Ytlhhefijkbkcnaa
open Go.RowKit

theorem Hold.tail {w W : World} {x : Nat × Nat × Value} {l : List (Nat × Nat × Value)} (h : Hold w (x :: l) W) : Hold w l W := ⟨h.1, fun b o v hm => h.2 b o v (List.mem_cons_of_mem _ hm)⟩
theorem cut_v (A : Option Addr) (n c m k : Nat) (hc : n ≤ c) (hk : Hid (min n m = k)) (w : World) :
    Calls Try.prog 15 #[.slice A n c, .int .i64 m] w fun e w' => e = .returned (.slice A k c) ∧ w = w' := by
  have h := hk.out; subst h; exact cut_any A n c m hc w
theorem cut_5 (A : Option Addr) (n c k : Nat) (hc : n ≤ c) (hk : Hid (min n 5 = k)) (w : World) :
    Calls Try.prog 15 #[.slice A n c, .int .i64 5] w fun e w' => e = .returned (.slice A k c) ∧ w = w' := cut_v A n c 5 k hc hk w

set_option maxRecDepth 100000 in
set_option maxHeartbeats 4000000 in
theorem near_any (x : Int) (A B : Option Addr) (n0 c m0 d : Nat) (w : World) (hc : n0 ≤ c) (hd : m0 ≤ d) :
    Calls Try.prog 4 #[.int .i64 x, .slice A n0 c, .slice B m0 d] w fun e w' => e = .returned (.bool true) ∧ Below w.heap.size w w' := by
  obtain ⟨j, Hj⟩ : ∃ a, Hid (idx x 6 = a) := ⟨_, rfl⟩
  have hj : j < 6 := by rw [← Hj.out]; exact idx_lt _ _ (by decide)
  obtain ⟨n, Hn⟩ : ∃ n, Hid (min n0 5 = n) := ⟨_, rfl⟩
  obtain ⟨m, Hm⟩ : ∃ m, Hid (min m0 5 = m) := ⟨_, rfl⟩
  have hn : n ≤ 70368744177664 := by rw [← Hn.out]; omega
  have hm : m ≤ 70368744177664 := by rw [← Hm.out]; omega
  go_enter Try.func4, Try.ntmps4
  go_wp2_with (first
    | (go_at_call 15; (with_reducible refine (cut_5 A n0 c n hc Hn _).mono ?_); rintro e w' ⟨rfl, rfl⟩)
    | (go_at_call 15; (with_reducible refine (cut_5 B m0 d m hd Hm _).mono ?_); rintro e w' ⟨rfl, rfl⟩)
    | (go_at_call 16; (with_reducible refine (index_6 x j Hj _).mono ?_); rintro e w' ⟨rfl, rfl⟩))
  obtain ⟨G, hG⟩ : ∃ G, G = w.heap.size := ⟨_, rfl⟩
  obtain ⟨W, hW⟩ : ∃ W, W = w.alloc (.cells #[.int .i64 j, .int .i64 1099511627773, .int .i64 1099511627776, .int .i64 (-1)] 3) := ⟨_, rfl⟩
  rw [← hW, ← hG]
  have HS : Hold w [(G, 0, .int .i64 j), (G, 1, .int .i64 1099511627773), (G, 2, .int .i64 1099511627776), (G, 3, .int .i64 (-1))] W := by
    subst hW; subst hG
    refine Hold.cons (Hold.cons (Hold.cons (Hold.cons (Hold.nil ((Below.refl _ _).alloc (Nat.le_refl _) _)) (by simp) ((cell_of_row _ _ 3 _ _ _ (heap_alloc_new w _)).trans rfl)) (by simp) ((cell_of_row _ _ 2 _ _ _ (heap_alloc_new w _)).trans rfl)) (by simp) ((cell_of_row _ _ 1 _ _ _ (heap_alloc_new w _)).trans rfl)) (by simp) ((cell_of_row _ _ 0 _ _ _ (heap_alloc_new w _)).trans rfl)
  clear hW hG
  go_loopw [21] (fun i wr => ∃ k : Nat, k ≤ 4 ∧ i = .int .i64 k ∧ Hold w [(G, 0, .int .i64 j), (G, 1, .int .i64 1099511627773), (G, 2, .int .i64 1099511627776), (G, 3, .int .i64 (-1))] wr) (fun i _ => 4 - (intOf i).toNat)
  case atStart => exact ⟨0, by omega, rfl, HS⟩
  case round =>
    clear HS
    obtain ⟨k, hk, rfl, HS⟩ := hrel
    by_cases hlt : k < 4
    · obtain ⟨a, ha0, ha1, hca⟩ : ∃ a : Int, -1 ≤ a ∧ a ≤ 1099511627776 ∧ wr.cell? ⟨G, k, none⟩ = some (.int .i64 a) := by
        have h3 : k = 0 ∨ k = 1 ∨ k = 2 ∨ k = 3 := by omega
        rcases h3 with rfl | rfl | rfl | rfl
        · exact ⟨j, by omega, by omega, HS.at_ 0 rfl⟩
        · exact ⟨_, by omega, by omega, HS.at_ 1 rfl⟩
        · exact ⟨_, by omega, by omega, HS.at_ 2 rfl⟩
        · exact ⟨_, by omega, by omega, HS.at_ 3 rfl⟩
      have hd4 : decide ((k : Int) < 4) = true := by simp; omega
      go_wp2
      clear hca
      obtain ⟨wo, rfl⟩ : ∃ wo : World, wo = wr := ⟨_, rfl⟩
      obtain ⟨C, hC⟩ : ∃ C, C = wo.heap.size := ⟨_, rfl⟩
      obtain ⟨W, hW⟩ : ∃ W, W = wo.alloc (.cells #[.int .i64 a, .slice A n c, .slice B m d] 24) := ⟨_, rfl⟩
      rw [← hW, ← hC]
      have HT : Hold w [(C, 0, .int .i64 a), (C, 1, .slice A n c), (C, 2, .slice B m d), (G, 0, .int .i64 j), (G, 1, .int .i64 1099511627773), (G, 2, .int .i64 1099511627776), (G, 3, .int .i64 (-1))] W := by
        subst hW; subst hC
        refine Hold.cons (Hold.cons (Hold.cons (HS.alloc _) (by simp) ((cell_of_row _ _ 2 _ _ _ (heap_alloc_new wo _)).trans rfl)) (by simp) ((cell_of_row _ _ 1 _ _ _ (heap_alloc_new wo _)).trans rfl)) (by simp) ((cell_of_row _ _ 0 _ _ _ (heap_alloc_new wo _)).trans rfl)
      clear hW hC HS
      go_loopw [10] (fun i wr => ∃ p : Int, a - 3 ≤ p ∧ p ≤ a + 9 ∧ i = .int .i64 p ∧ Hold w [(C, 0, .int .i64 a), (C, 1, .slice A n c), (C, 2, .slice B m d), (G, 0, .int .i64 j), (G, 1, .int .i64 1099511627773), (G, 2, .int .i64 1099511627776), (G, 3, .int .i64 (-1))] wr) (fun i _ => (a + 9 - intOf i).toNat)
      case atStart => exact ⟨a - 3, by omega, by omega, rfl, HT⟩
      case round =>
        clear HT
        obtain ⟨p, hp0, hp1, rfl, HT⟩ := hrel
        by_cases hlp : p < a + 9
        · go_wp2
          obtain ⟨wp, rfl⟩ : ∃ wo : World, wo = wr := ⟨_, rfl⟩
          go_loopw [11] (fun i wr => ∃ q : Int, p ≤ q ∧ q ≤ a + 9 ∧ i = .int .i64 q ∧ Hold w [(C, 0, .int .i64 a), (C, 1, .slice A n c), (C, 2, .slice B m d), (G, 0, .int .i64 j), (G, 1, .int .i64 1099511627773), (G, 2, .int .i64 1099511627776), (G, 3, .int .i64 (-1))] wr) (fun i _ => (a + 9 - intOf i).toNat)
          case atStart => exact ⟨p, by omega, by omega, rfl, HT⟩
          case round =>
            clear HT
            obtain ⟨q, hq0, hq1, rfl, HT⟩ := hrel
            by_cases hlq : q < a + 9
            · go_wp2
              obtain ⟨F, hF⟩ : ∃ F, F = wr.heap.size := ⟨_, rfl⟩
              obtain ⟨W, hW⟩ : ∃ W, W = wr.alloc (.cells #[.int .i64 p, .int .i64 q] 26) := ⟨_, rfl⟩
              rw [← hW, ← hF]
              have HS : Hold w [(F, 0, .int .i64 p), (F, 1, .int .i64 q), (C, 0, .int .i64 a), (C, 1, .slice A n c), (C, 2, .slice B m d), (G, 0, .int .i64 j), (G, 1, .int .i64 1099511627773), (G, 2, .int .i64 1099511627776), (G, 3, .int .i64 (-1))] W := by
                subst hW; subst hF
                refine Hold.cons (Hold.cons (HT.alloc _) (by simp) ((cell_of_row _ _ 1 _ _ _ (heap_alloc_new wr _)).trans rfl)) (by simp) ((cell_of_row _ _ 0 _ _ _ (heap_alloc_new wr _)).trans rfl)
              clear hW hF HT
              go_region_held3 (fun w' => w'.cell? ⟨F, 0, none⟩ = some (.int .i64 p) ∧ w'.cell? ⟨F, 1, none⟩ = some (.int .i64 q) ∧ w'.cell? ⟨C, 0, none⟩ = some (.int .i64 a) ∧ w'.cell? ⟨C, 1, none⟩ = some (.slice A n c) ∧ w'.cell? ⟨C, 2, none⟩ = some (.slice B m d)) (first | exact ⟨h10.at_ 0 rfl, h10.at_ 1 rfl, h10.at_ 2 rfl, h10.at_ 3 rfl, h10.at_ 4 rfl⟩ | exact ⟨h9.at_ 0 rfl, h9.at_ 1 rfl, h9.at_ 2 rfl, h9.at_ 3 rfl, h9.at_ 4 rfl⟩ | exact ⟨h8.at_ 0 rfl, h8.at_ 1 rfl, h8.at_ 2 rfl, h8.at_ 3 rfl, h8.at_ 4 rfl⟩ | exact ⟨h7.at_ 0 rfl, h7.at_ 1 rfl, h7.at_ 2 rfl, h7.at_ 3 rfl, h7.at_ 4 rfl⟩ | exact ⟨h6.at_ 0 rfl, h6.at_ 1 rfl, h6.at_ 2 rfl, h6.at_ 3 rfl, h6.at_ 4 rfl⟩ | exact ⟨h5.at_ 0 rfl, h5.at_ 1 rfl, h5.at_ 2 rfl, h5.at_ 3 rfl, h5.at_ 4 rfl⟩ | exact ⟨h4.at_ 0 rfl, h4.at_ 1 rfl, h4.at_ 2 rfl, h4.at_ 3 rfl, h4.at_ 4 rfl⟩ | exact ⟨h3.at_ 0 rfl, h3.at_ 1 rfl, h3.at_ 2 rfl, h3.at_ 3 rfl, h3.at_ 4 rfl⟩ | exact ⟨h2.at_ 0 rfl, h2.at_ 1 rfl, h2.at_ 2 rfl, h2.at_ 3 rfl, h2.at_ 4 rfl⟩ | exact ⟨h1.at_ 0 rfl, h1.at_ 1 rfl, h1.at_ 2 rfl, h1.at_ 3 rfl, h1.at_ 4 rfl⟩ | exact ⟨HS.at_ 0 rfl, HS.at_ 1 rfl, HS.at_ 2 rfl, HS.at_ 3 rfl, HS.at_ 4 rfl⟩)
                (first
                  | (go_at_call 9; (with_reducible refine (place_b p a n m _ _ _ _ true _ hn hm).mono ?_); rintro e w1 ⟨rfl, hb⟩; have h1 := (HS.drew).below hb; clear hb)
                  | (go_at_call 10; (with_reducible refine (moved_b p a n m _ _ _ _ true _ hn hm).mono ?_); rintro e w2 ⟨rfl, hb⟩; have h2 := (h1).below hb; clear hb)
                  | (go_at_call 9; (with_reducible refine (place_b p a n m _ _ _ _ false _ hn hm).mono ?_); rintro e w3 ⟨rfl, hb⟩; have h3 := (h2).below hb; clear hb)
                  | (go_at_call 10; (with_reducible refine (moved_b p a n m _ _ _ _ false _ hn hm).mono ?_); rintro e w4 ⟨rfl, hb⟩; have h4 := (h3).below hb; clear hb)
                  | (go_at_call 11; (with_reducible refine (span_any p q a 0 n m _ _ _ _ _ hn hm).mono ?_); rintro e w5 ⟨rfl, hb⟩; have h5 := (h4).below hb; clear hb)
                  | (go_at_call 12; (with_reducible refine (rspan_any p q a 0 n m _ _ _ _ _ hn hm).mono ?_); rintro e w6 ⟨rfl, hb⟩; have h6 := (h5).below hb; clear hb)
                  | (go_at_call 11; (with_reducible refine (span_any p q a 1 n m _ _ _ _ _ hn hm).mono ?_); rintro e w7 ⟨rfl, hb⟩; have h7 := (h6).below hb; clear hb)
                  | (go_at_call 12; (with_reducible refine (rspan_any p q a 1 n m _ _ _ _ _ hn hm).mono ?_); rintro e w8 ⟨rfl, hb⟩; have h8 := (h7).below hb; clear hb)
                  | (go_at_call 11; (with_reducible refine (span_any p q a 2 n m _ _ _ _ _ hn hm).mono ?_); rintro e w9 ⟨rfl, hb⟩; have h9 := (h8).below hb; clear hb)
                  | (go_at_call 12; (with_reducible refine (rspan_any p q a 2 n m _ _ _ _ _ hn hm).mono ?_); rintro e w10 ⟨rfl, hb⟩; have h10 := (h9).below hb; clear hb))
              go_wp2
              go_roundw
              case rel => first | exact ⟨q + 1, by omega, by omega, rfl, h10.tail.tail⟩ | ((repeat apply Exists.intro); exact ⟨⟨q + 1, by omega, by omega, rfl, h10.tail.tail⟩, rfl⟩)
              case measure => simp [intOf]; omega
            · go_wp2
              go_roundw
              case rel => first | exact ⟨p + 1, by omega, by omega, rfl, HT⟩ | ((repeat apply Exists.intro); exact ⟨⟨p + 1, by omega, by omega, rfl, HT⟩, rfl⟩)
              case measure => simp [intOf]; omega
        · go_wp2
          go_roundw
          case rel => first | exact ⟨k + 1, by omega, by go_num, HT.tail.tail.tail⟩ | ((repeat apply Exists.intro); exact ⟨⟨k + 1, by omega, by go_num, HT.tail.tail.tail⟩, rfl⟩)
          case measure => simp [intOf]; omega
    · go_wp2_with (go_at_call 14; (with_reducible refine (known_any _).mono ?_); rintro e w9 ⟨rfl, hb9⟩)
      go_ret
      exact ⟨rfl, HS.bel.trans (hb9.mono HS.size)⟩
end Go.Proofs.Ytlhhefijkbkcnaa
