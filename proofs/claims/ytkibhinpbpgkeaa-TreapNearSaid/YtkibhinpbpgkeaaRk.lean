/- The walk of TreapFull. -/
import Derived.Test.YtkibhinpbpgkeaaRf
import Derived.Test.YtkibhinpbpgkeaaRi
namespace Go.Proofs.Ytkibhinpbpgkeaa
open Go.RowKit Go.ChangeMaps

/-- The marks of the numbers below k. -/
def FullK (K : List Mk) (k : Nat) : Prop := K.length = k ∧ (∀ x ∈ K, 0 ≤ x.id ∧ x.id < k) ∧ ∀ j : Nat, j < k → hasB K j = true
theorem full_next {K : List Mk} {k : Nat} (h : FullK K k) (hk : k < 600) {f o p : Int} (h0 : 0 ≤ f) (h1 : f ≤ o) (h2 : o ≤ 1000) : addN K ⟨k, f, o, p⟩ = 0 ∧ FullK (addL K ⟨k, f, o, p⟩) (k + 1) := by
  obtain ⟨a, b, c⟩ := h
  have e1 : mayB f o = true := by simp only [mayB, decide_eq_true_eq]; omega
  have e2 : hasB K k = false := no_has fun x hx => by have := b x hx; omega
  have e3 : ¬ 600 ≤ K.length := by omega
  have e : addN K ⟨k, f, o, p⟩ = 0 := by simp [addN, e1, e2, e3]
  have e4 : addL K ⟨k, f, o, p⟩ = ins K ⟨k, f, o, p⟩ := by simp [addL, e]
  refine ⟨e, ?_⟩
  rw [e4]
  refine ⟨by rw [ins_len, a], fun x hx => ?_, fun j hj => ?_⟩
  · rcases (mem_ins _ _ _).1 hx with rfl | hx
    · simp; omega
    · have := b x hx; omega
  · simp only [hasB, List.any_eq_true]
    by_cases hjk : j = k
    · exact ⟨_, (mem_ins _ _ _).2 (.inl rfl), by subst hjk; simp⟩
    · obtain ⟨x, hx, hi⟩ := hasB_true (c j (by omega))
      exact ⟨x, (mem_ins _ _ _).2 (.inr hx), by simpa using hi⟩
theorem full_end {K : List Mk} (h : FullK K 600) (hid : Ids K) : addN K ⟨-1, 0, 0, 0⟩ = 3 ∧ addN K ⟨5, 0, 0, 0⟩ = 1 ∧ remN K 7 = 0 ∧ addN (del K 7) ⟨-1, 0, 0, 0⟩ = 0 := by
  obtain ⟨a, b, c⟩ := h
  have e1 : mayB 0 0 = true := by decide
  have e2 : hasB K (-1) = false := no_has fun x hx => by have := b x hx; omega
  have e5 : hasB K 5 = true := c 5 (by omega)
  have e7 : hasB K 7 = true := c 7 (by omega)
  refine ⟨by simp [addN, e1, e2, a], by simp [addN, e1, e5], by simp [remN, e7], ?_⟩
  obtain ⟨m, hm, hi⟩ := hasB_true e7
  have hl := del_len_mem hid hm
  rw [hi] at hl
  have e3 : hasB (del K 7) (-1) = false := no_has fun x hx => by have := b x (List.mem_filter.1 hx).1; omega
  have e4 : ¬ 600 ≤ (del K 7).length := by omega
  simp [addN, e1, e3, e4]
theorem chg_cell {F : List Nat} {w w' : World} (h : Chg F w w') {b : Nat} (o : Nat) (hb : b < w.heap.size) (hn : b ∉ F) : w'.cell? ⟨b, o, none⟩ = w.cell? ⟨b, o, none⟩ := cell_of_heap (h.block b hb hn) o
theorem add_0 (W : World) (B s b : Nat) (K : List Mk) (i v : Int) (hv : Hid (addN K ⟨i, 0, 0, 0⟩ = v)) (h : SetK W B s b K) : Calls Try.prog 12 #[.pointer (some ⟨s, 0, none⟩), .agg #[.int .i64 i, .int .i64 0, .int .i64 0, .int .i64 0]] W
    fun e w' => e = .returned (.int .i64 v) ∧ SetK w' B s b (addL K ⟨i, 0, 0, 0⟩) ∧ Below B W w' := add_k W B s b K ⟨i, 0, 0, 0⟩ v hv h

theorem both_new {w1 : World} {B : Nat} (hs1 : SetIn w1 (B + 1) B .nil) : Both (w1.alloc (.cells #[.slice none 0 0] 40 (0, 0))) B (B + 1) B w1.heap.size [] := by
  have hlt1 := hs1.lt (B + 1) (by simp)
  have hlt2 := hs1.lt B (by simp)
  have hbb : Below w1.heap.size w1 (w1.alloc (.cells #[.slice none 0 0] 40 (0, 0))) := (Below.refl _ _).alloc (Nat.le_refl _) _
  have hno : ∀ ad : Addr, (none : Option Addr) = some ad → False := fun ad e => by cases e
  exact ⟨.nil, none, 0, 0, hs1.below hbb hs1.lt, rfl, ⟨heap_new _ _, ⟨rfl, fun k hk => absurd hk (by omega)⟩, Nat.le_refl _, by simp [maxLen], fun ad e => (hno ad e).elim, fun ad e => (hno ad e).elim⟩, by simp [TR.blocks], by omega, by simp [TR.blocks]; omega, fun ad e => (hno ad e).elim, by simp⟩
theorem mul_in (k : Nat) (hk : k < 600) : k * k ≤ 360000 := Nat.le_trans (Nat.mul_le_mul (Nat.le_of_lt hk) (Nat.le_of_lt hk)) (by decide)

set_option maxRecDepth 100000 in
set_option maxHeartbeats 4000000 in
theorem full_any (W : World) (by0 : Int) : Calls Try.prog 5 #[.int .i64 by0] W fun e w' => e = .returned (.bool true) ∧ Below W.heap.size W w' := by
  obtain ⟨x, hx⟩ : ∃ v, bits BinOp.and IntKind.i64 by0 65535 = v := ⟨_, rfl⟩
  have hx0 : 0 ≤ bits BinOp.and IntKind.i64 by0 65535 ∧ bits BinOp.and IntKind.i64 by0 65535 ≤ 65535 := mask_le by0 65535 (by omega)
  rw [hx] at hx0
  obtain ⟨hx1, hx2⟩ := hx0
  obtain ⟨B, hB⟩ : ∃ B, W.heap.size = B := ⟨_, rfl⟩
  have HN : Hid (Calls Try.prog 10 #[] W fun e w' => e = .returned (.pointer (some ⟨B + 1, 0, none⟩)) ∧ SetIn w' (B + 1) B .nil ∧ Below B W w') := by have h := new_any W; rw [hB] at h; exact h
  have HB := Lib.hid hB
  clear hB
  go_enter Try.func5, Try.ntmps5
  go_wp2_with (go_at_call 10; (with_reducible refine (HN.out).mono ?_); rintro e w1 ⟨rfl, hs1, hb1⟩)
  have HB1 := Lib.hid hb1
  have hlt1 := hs1.lt (B + 1) (by simp)
  have HS := Lib.hid (both_new hs1)
  have HB2 : Hid (Below B w1 (w1.alloc (.cells #[.slice none 0 0] 40 (0, 0)))) := (Below.refl _ _).alloc (by omega) _
  obtain ⟨R, hR⟩ : ∃ R, w1.heap.size = R := ⟨_, rfl⟩
  rw [hR] at HS
  rw [hR]
  clear hs1 hb1 hlt1 hR
  go_wp2
  go_loopw [5] (fun i wr => ∃ (k : Nat) (w0 : World) (K : List Mk), w0 = wr ∧ k ≤ 600 ∧ i = .int .i64 k ∧ Hid (FullK K k) ∧ Both wr B (B + 1) B R K ∧ Below B W wr) (fun i _ => 600 - (intOf i).toNat)
  case atStart => exact ⟨0, _, [], rfl, by omega, rfl, ⟨rfl, by simp, fun j hj => by omega⟩, HS.out, HB1.out.trans HB2.out⟩
  case round =>
    obtain ⟨k, wr, K, rfl, hk, rfl, HK, hS, hbx⟩ := hrel
    by_cases hlt : k < 600
    · obtain ⟨f, hf⟩ : ∃ f : Int, ((k : Int) * 7) % 50 = f := ⟨_, rfl⟩
      obtain ⟨g, hg⟩ : ∃ g : Int, (k : Int) % 9 = g := ⟨_, rfl⟩
      obtain ⟨q, hq⟩ : ∃ q : Int, (k : Int) * (k : Int) = q := ⟨_, rfl⟩
      have hqb : 0 ≤ q ∧ q ≤ 360000 := by have h := mul_in k hlt; have e : ((k * k : Nat) : Int) = q := by rw [← hq]; simp
                                          omega
      obtain ⟨p, hp⟩ : ∃ p : Int, (q + x) % 37 = p := ⟨_, rfl⟩
      have hf1 : 0 ≤ f ∧ f ≤ 49 := by omega
      have hg1 : 0 ≤ g ∧ g ≤ 8 := by omega
      have ha := full_next (f := f) (o := 50 + g) (p := p) HK.out hlt (by omega) (by omega) (by omega)
      have HA : Hid (addN K ⟨k, f, 50 + g, p⟩ = 0) := ha.1
      have HNX := Lib.hid ha.2
      have hx3 : IntKind.i64.wrap ((k : Int) * (k : Int)) = q := by rw [hq]; exact IntWalk.i64_in _ (by omega)
      have hx4 : IntKind.i64.wrap q = q := IntWalk.i64_in _ (by omega)
      have hx5 : IntKind.i64.wrap (q + x) = q + x := IntWalk.i64_in _ (by omega)
      have hx6 : (q + x).tmod 37 = p := by rw [Int.tmod_eq_emod_of_nonneg (by omega)]; exact hp
      have hx7 : ((k : Int) * 7).tmod 50 = f := by rw [Int.tmod_eq_emod_of_nonneg (by omega)]; exact hf
      have hx8 : (k : Int).tmod 9 = g := by rw [Int.tmod_eq_emod_of_nonneg (by omega)]; exact hg
      have hx9 : IntKind.i64.wrap ((k : Int) * 7) = (k : Int) * 7 := IntWalk.i64_in _ (by omega)
      have hx10 : IntKind.i64.wrap (50 + g) = 50 + g := IntWalk.i64_in _ (by omega)
      obtain ⟨t, A, n, c, h1, h2, h3, h4, h5, h6, h7, h8⟩ := hS
      have HT := Lib.hid h2
      have HS1 := Lib.hid h1
      have HR3 := Lib.hid h3
      have HD := Lib.hid (And.intro h4 (And.intro h5 (And.intro h6 h7)))
      have HBX := Lib.hid hbx
      have hn : n ≤ 600 := by rw [← h3.len]; exact h8
      have hsl : ∀ g, g ∈ (B + 1) :: B :: t.blocks → g < wr.heap.size := h1.lt
      have HSL := Lib.hid hsl
      clear ha h1 h2 h3 h4 h5 h6 h7 h8 hbx hsl
      have HAL : Hid (∀ o, Below wr.heap.size wr (wr.alloc o)) := fun o => (Below.refl _ _).alloc (Nat.le_refl _) o
      go_wp2_with (first
        | (go_at_call 12; (with_reducible refine (set_add _ (B + 1) B t K ⟨k, f, 50 + g, p⟩ 0 HA HT (HS1.out.below (HAL.out _) HS1.out.lt)).mono ?_); rintro e w3 ⟨rfl, hl⟩; have HL := Lib.hid hl; obtain ⟨t', _, _, _, hc⟩ := hl; have hno : wr.heap.size ∉ (B + 1) :: B :: t.blocks := (fun h => by have := HSL.out _ h; omega); have z0 : w3.cell? ⟨wr.heap.size, 0, none⟩ = some (.int .i64 k) := (chg_cell hc 0 (by simp) hno).trans (by simp [go_sem]); have z1 : w3.cell? ⟨wr.heap.size, 1, none⟩ = some (.int .i64 f) := (chg_cell hc 1 (by simp) hno).trans (by simp [go_sem]); have z2 : w3.cell? ⟨wr.heap.size, 2, none⟩ = some (.int .i64 (50 + g)) := (chg_cell hc 2 (by simp) hno).trans (by simp [go_sem]); have z3 : w3.cell? ⟨wr.heap.size, 3, none⟩ = some (.int .i64 p) := (chg_cell hc 3 (by simp) hno).trans (by simp [go_sem]); have HREF : Hid (RefIn w3 R A n c K) := (HR3.out.below (HAL.out _)).chg hc HD.out.2.2.1 HD.out.2.2.2; clear hc)
        | (go_at_call 18; (with_reducible refine (ref_add w3 R A n c K ⟨k, f, 50 + g, p⟩ 0 HA HREF.out hn).mono ?_); rintro e w4 ⟨rfl, hl2⟩; have HL2 := Lib.hid hl2; clear hl2))
      have hlen : Hid ((addL K ⟨k, f, 50 + g, p⟩).length ≤ 600) := by rw [Hid, HNX.out.1]; omega
      have HF := Lib.hid (both_fin1 (HS1.out.below (HAL.out _) HS1.out.lt) (HR3.out.below (HAL.out _)) HD.out.1 HD.out.2.1 HD.out.2.2.1 HD.out.2.2.2 hlen.out HL.out HL2.out)
      clear hf hg hq hp hx3 hx4 hx5 hx6 hx7 hx8 hx9 hx10
      have hBw : B ≤ wr.heap.size := by have := HSL.out B (by simp); omega
      exact ⟨⟨k + 1, _, _, rfl, by omega, by go_num, HNX, HF.out.1, HBX.out.trans (((HAL.out _).mono hBw).trans HF.out.2)⟩, by simp [intOf]; omega⟩
    · have hke : k = 600 := by omega
      subst hke
      have hfe := full_end HK.out hS.set.ids
      have HA1 := Lib.hid hfe.1
      have HA2 := Lib.hid hfe.2.1
      have HA3 := Lib.hid hfe.2.2.1
      have HA4 := Lib.hid hfe.2.2.2
      have HLEN : Hid ((K.length : Int) = 600) := by rw [Hid, HK.out.1]; rfl
      have hL1 : addL K ⟨-1, 0, 0, 0⟩ = K := by simp [addL, hfe.1]
      have hL2 : addL K ⟨5, 0, 0, 0⟩ = K := by simp [addL, hfe.2.1]
      have H1 : Hid (∀ w, Both w B (B + 1) B R K → Calls Try.prog 12 #[.pointer (some ⟨B + 1, 0, none⟩), .agg #[.int .i64 (-1), .int .i64 0, .int .i64 0, .int .i64 0]] w fun e w' => e = .returned (.int .i64 3) ∧ Below w.heap.size w w') := fun w h => by
        obtain ⟨t, A, n, c, h1, rfl, _⟩ := h
        have h := add_no w (B + 1) B t ⟨-1, 0, 0, 0⟩ h1 (by rw [HA1.out]; decide)
        rw [HA1.out] at h
        exact h
      have H2 : Hid (∀ w, Both w B (B + 1) B R K → Calls Try.prog 12 #[.pointer (some ⟨B + 1, 0, none⟩), .agg #[.int .i64 5, .int .i64 0, .int .i64 0, .int .i64 0]] w fun e w' => e = .returned (.int .i64 1) ∧ Below w.heap.size w w') := fun w h => by
        obtain ⟨t, A, n, c, h1, rfl, _⟩ := h
        have h := add_no w (B + 1) B t ⟨5, 0, 0, 0⟩ h1 (by rw [HA2.out]; decide)
        rw [HA2.out] at h
        exact h
      have HS3 := Lib.hid hS
      have HBX := Lib.hid hbx
      have hsz := hS.set.size
      clear hfe hS hbx hL1 hL2 hlt
      go_wp2_with (first
        | (go_at_call 12; (with_reducible refine (H1.out wr HS3.out).mono ?_); rintro e w3 ⟨rfl, hd1⟩; have HD1 := Lib.hid hd1; clear hd1)
        | (go_at_call 12; (with_reducible refine (H2.out w3 (HS3.out.below HD1.out)).mono ?_); rintro e w4 ⟨rfl, hd2⟩; have HD2 := Lib.hid hd2; clear hd2)
        | (go_at_call 19; (with_reducible refine (len_k w4 B (B + 1) B K 600 HLEN ((HS3.out.below HD1.out).below HD2.out).set).mono ?_); rintro e w' ⟨rfl, rfl⟩))
      have HS4 : Hid (Both w4 B (B + 1) B R K) := (HS3.out.below HD1.out).below HD2.out
      have HB4 : Hid (Below B W w4) := HBX.out.trans ((HD1.out.trans (HD2.out.mono HD1.out.size)).mono hsz.2.2)
      have HID := Lib.hid HS4.out.set.ids
      clear H1 H2 HD1 HD2 HS3 HBX hsz
      go_loopw [7] (fun i wy => ∃ (g : Int) (w0 : World), w0 = wy ∧ 0 ≤ g ∧ g ≤ 640 ∧ i = .int .i64 g ∧ Below w4.heap.size w4 wy) (fun i _ => (640 - intOf i).toNat)
      case atStart => exact ⟨0, _, rfl, by omega, by omega, rfl, Below.refl _ _⟩
      case round =>
        obtain ⟨g, wy, rfl, hg0, hg1, rfl, hby⟩ := hrel
        have HSY := Lib.hid (HS4.out.below hby)
        have HBY := Lib.hid hby
        have hzy := hby.size
        clear hby
        by_cases hlt2 : g < 600
        · obtain ⟨v, HV⟩ : ∃ v : Int, Hid ((depN [] K g : Int) = v) := ⟨_, rfl⟩
          obtain ⟨A, n, c, hri, hn⟩ := HSY.out.ref
          have HRI := Lib.hid hri
          have hn2 : n ≤ 1000 := by omega
          clear hri
          go_wp2_with (first
            | (go_at_call 14; (with_reducible refine (depth_k wy B (B + 1) B K g v HV HSY.out.set).mono ?_); rintro e u1 ⟨rfl, hd1⟩; have HD1 := Lib.hid hd1; have hz1 := hd1.size; clear hd1)
            | (go_at_call 20; (with_reducible refine (rdepth_any u1 R A n c K g v HV (HRI.out.below HD1.out) HID.out hn2).mono ?_); rintro e u2 ⟨rfl, hd2⟩; have HD2 := Lib.hid hd2; clear hd2))
          go_roundw
          case rel => exact ⟨g + 41, _, rfl, by omega, by omega, rfl, HBY.out.trans ((HD1.out.trans (HD2.out.mono hz1)).mono hzy)⟩
          case measure => simp [intOf]; omega
        · go_wp2_with (first
            | (go_at_call 13; (with_reducible refine (rem_k wy B (B + 1) B K 7 0 HA3 HSY.out.set).mono ?_); rintro e u1 ⟨rfl, hS1, hd1⟩; have HS1 := Lib.hid hS1; have HD1 := Lib.hid hd1; clear hd1 hS1)
            | (go_at_call 12; (with_reducible refine (add_0 u1 B (B + 1) B (del K 7) (-1) 0 HA4 HS1.out).mono ?_); rintro e u2 ⟨rfl, hS2, hd2⟩; have HS2 := Lib.hid hS2; have HD2 := Lib.hid hd2; clear hd2 hS2)
            | (go_at_call 17; (with_reducible refine (known_any u2).mono ?_); rintro e u3 ⟨rfl, hd3⟩; have HD3 := Lib.hid hd3; clear hd3))
          go_ret
          have hfin := HB4.out.trans ((HBY.out.mono HS4.out.set.size.2.2).trans (HD1.out.trans (HD2.out.trans (HD3.out.mono HS2.out.size.2.2))))
          exact ⟨rfl, by rw [HB.out]; exact hfin⟩
end Go.Proofs.Ytkibhinpbpgkeaa
