/- The walks of SameInts and same. -/
import Derived.Test.YtkibhinpbpgkeaaRf
import Derived.Test.YtkibhinpbpgkeaaRi
import Derived.Test.YtkibhinpbpgkeaaRg
namespace Go.Proofs.Ytkibhinpbpgkeaa
open Go.RowKit Go.ChangeMaps
attribute [local go_sem ↓] Go.wp_at_zero Go.wp_at_succ

set_option maxHeartbeats 1000000 in
theorem sameInts_yes (W : World) (A A' : Option Addr) (n c c' : Nat) (zs : List Int) (h1 : Rds W W.heap.size 1 A n (zs.map (Value.int .i64))) (h2 : Rds W W.heap.size 1 A' n (zs.map (Value.int .i64))) (hn : n ≤ 1000) :
    Calls Try.prog 51 #[.slice A n c, .slice A' n c'] W fun e w' => e = .returned (.bool true) ∧ Below W.heap.size W w' := by
  go_enter Try.func51, Try.ntmps51
  go_wp2
  go_loopw [5] (fun i wr => ∃ (k : Nat) (w0 : World), w0 = wr ∧ k ≤ n ∧ i = .int .i64 k ∧ Below W.heap.size W wr) (fun i _ => n - (intOf i).toNat)
  case atStart => exact ⟨0, _, rfl, Nat.zero_le _, rfl, Below.refl _ _⟩
  case round =>
    obtain ⟨k, wr, rfl, hk, rfl, hbx⟩ := hrel
    by_cases hlt : k < n
    · obtain ⟨ad, x, rfl, hB, e0, Hx⟩ := (h1.below hbx).int_at hlt
      obtain ⟨ad', x', rfl, hB', x0, Hx'⟩ := (h2.below hbx).int_at hlt
      have hmm : x' = x := Hx'.out.trans Hx.out.symm
      subst hmm
      have HBX := Lib.hid hbx
      clear hbx h1 h2 Hx Hx'
      go_wp2
      go_region
      go_wp2
      go_roundw
      case rel => exact ⟨k + 1, _, rfl, by omega, by go_num, HBX.out.drew⟩
      case measure => simp [intOf]; omega
    · go_wp2
      go_ret
      exact ⟨rfl, hbx⟩

/-- A row of the call's own, whatever it holds. -/
def Row (w : World) (base : Nat) (e : TypeId) (z : Nat) (A : Option Addr) (n p : Nat) : Prop := ∃ xs, w.ownsRow base e z (.slice A n p) n xs
theorem Row.at_ {w : World} {base z n p k j : Nat} {e : TypeId} {A : Option Addr} (h : Row w base e z A n p) (hk : k < n) (hj : j < z) : ∃ g v, A = some ⟨g, 0, none⟩ ∧ base ≤ g ∧ g < w.heap.size ∧ w.cell? ⟨g, k * z + j, none⟩ = some v ∧ w.frozen? ⟨g, k * z + j, none⟩ = false ∧
    ∀ u, Row (w.setCell ⟨g, k * z + j, none⟩ u) base e z A n p := by
  obtain ⟨xs, ho⟩ := h
  obtain ⟨g, cap, hv, hg1, hg2⟩ := ho.form (by omega)
  have hA : A = some ⟨g, 0, none⟩ := by injection hv
  subst hA
  have hlt : k * z + j < n * z := by
    have h1 : (k + 1) * z ≤ n * z := Nat.mul_le_mul_right _ hk
    rw [Nat.add_mul, Nat.one_mul] at h1
    omega
  have hx : k * z + j < xs.length := by rw [ho.1]; exact hlt
  exact ⟨g, xs[k * z + j], rfl, hg1, hg2, by rw [ho.cellAt _ hlt]; exact List.getElem?_eq_getElem hx, ho.frozenAt _, fun u => ⟨_, (ho.stored _ u).1⟩⟩
theorem RefIn.mark {W : World} {r n c k : Nat} {A : Option Addr} {K : List Mk} (h : RefIn W r A n c K) (hk : k < n) : ∃ m, m ∈ K ∧ Hid (K.getD k ⟨0, 0, 0, 0⟩ = m) := ⟨_, getD_mem (by rw [h.len]; exact hk), rfl⟩

set_option maxRecDepth 100000 in
set_option maxHeartbeats 4000000 in
theorem same_any (W : World) (B s b r : Nat) (K : List Mk) (hS : Both W B s b r K) : Calls Try.prog 44 #[.pointer (some ⟨s, 0, none⟩), .pointer (some ⟨r, 0, none⟩)] W fun e w' => e = .returned (.bool true) ∧ Below W.heap.size W w' := by
  obtain ⟨A, n, c, hri, hn⟩ := hS.ref
  have HS := Lib.hid hS
  have HRI := Lib.hid hri
  have hr0 := hri.lt
  have hKn := hri.len
  have HID := Lib.hid hS.set.ids
  go_enter Try.func44, Try.ntmps44
  clear hri hS
  subst hKn
  obtain ⟨n, hKn⟩ : ∃ n, K.length = n := ⟨_, rfl⟩
  rw [hKn] at HRI hn
  have HL := Lib.hid hKn
  have H16 : Hid (Calls Try.prog 16 #[.pointer (some ⟨s, 0, none⟩)] W fun e w' => ∃ A p, e = .returned (.slice A n p) ∧ w'.ownsRow (W.heap.size + 1) 30 4 (.slice A n p) n (cells4 K) ∧ Below W.heap.size W w') := by have h := all_k W B s b K HS.out.set; rw [hKn] at h; exact h
  clear hKn
  go_wp2_with (go_at_call 16; (with_reducible refine (H16.out).mono ?_); rintro e w1 ⟨A1, p1, rfl, ho1, hd1⟩)
  have HO1 := Lib.hid ho1
  have HD1 := Lib.hid hd1
  have hz1 := hd1.size
  have c1 := ((HRI.out.below hd1)).cell
  have HM1 : Hid (∀ w, Below w1.heap.size w1 w → Calls Try.prog 15 #[.slice A1 n p1, .slice A n c] w fun e w' => e = .returned (.bool true) ∧ Below w.heap.size w w') := fun w hb => by
    have hl := HL.out
    have g1 : RdM w1 w1.heap.size A1 n K := by have ho := HO1.out; rw [← hl] at ho ⊢; exact RdM.of_own ho (Below.refl _ _)
    have g2 : RdM w w.heap.size A1 n K := (g1.below hb).more hb.size
    have g3 : RdM w w.heap.size A n K := ((HRI.out.below HD1.out).below hb).rd
    rw [← hl] at g2 g3 ⊢
    exact sameMarks_yes w A1 A p1 c K g2 g3 (by omega)
  have HM2 : Hid (∀ w, Below w1.heap.size w1 w → Calls Try.prog 19 #[.pointer (some ⟨s, 0, none⟩)] w fun e w' => e = .returned (.int .i64 n) ∧ w = w') := fun w hb => len_k w B s b K n (by rw [Hid, HL.out]) ((HS.out.below HD1.out).below hb).set
  have hHC : Hid (∀ w', Below w1.heap.size w1 w' → w'.cell? ⟨r, 0, none⟩ = some (.slice A n c)) := fun w' hb => ((HRI.out.below HD1.out).below hb).cell
  clear ho1 hd1 H16
  go_region_held3 (fun w' => w'.cell? ⟨r, 0, none⟩ = some (.slice A n c)) (exact hHC.out _ (by repeat (first | exact HY1.out | exact Below.refl _ _ | refine Below.drew ?_)))
    ((first
      | (go_at_call 15; (with_reducible refine (HM1.out _ ((Below.refl _ _).drew)).mono ?_); rintro e w2 ⟨rfl, hd2⟩; have HY1 : Hid (Below w1.heap.size w1 w2) := ((Below.refl _ _).drew).trans hd2; clear hd2)
      | (go_at_call 19; (with_reducible refine (HM2.out _ HY1.out).mono ?_); rintro e w' ⟨rfl, rfl⟩)))
  go_wp2
  have HW2 : Hid (Below W.heap.size W w2) := HD1.out.trans (HY1.out.mono hz1)
  have HRW : Hid (Row w2 (W.heap.size + 1) 30 4 A1 n p1) := ⟨_, own_below HO1.out HY1.out fun k hk => (HO1.out.lt k hk).2⟩
  clear HM1 HM2 hHC c1
  go_loopw [32] (fun i wr => ∃ (k : Nat) (w0 : World), w0 = wr ∧ k ≤ n ∧ i = .int .i64 k ∧ Hid (Row wr (W.heap.size + 1) 30 4 A1 n p1) ∧ Below W.heap.size W wr) (fun i _ => n - (intOf i).toNat)
  case atStart => exact ⟨0, _, rfl, Nat.zero_le _, rfl, HRW.out, HW2.out⟩
  case round =>
    obtain ⟨k, wr, rfl, hk, rfl, HR, hbx⟩ := hrel
    have HBX := Lib.hid hbx
    by_cases hlt : k < n
    · obtain ⟨g, v, rfl, hg1, hg2, y0, y1, hst⟩ := HR.out.at_ (j := 1) hlt (by omega)
      have HST := Lib.hid hst
      clear hst hbx
      go_wp2
      exact ⟨⟨k + 1, _, rfl, by omega, by go_num, HST.out _, HBX.out.setCell (show W.heap.size ≤ g by omega) _⟩, by simp [intOf]; omega⟩
    · have c2 := (HRI.out.below hbx).cell
      have hkn : k = n := by omega
      subst hkn
      clear hbx
      go_wp2
      clear c2
      go_loopw [45, 6] (fun i o wr => ∃ (j : Nat) (w0 : World), w0 = wr ∧ j ≤ k ∧ i = .int .i64 j ∧ o = .bool true ∧ Below W.heap.size W wr) (fun i _ _ => k - (intOf i).toNat)
      case atStart => exact ⟨0, _, rfl, Nat.zero_le _, rfl, rfl, HBX.out⟩
      case round =>
        obtain ⟨j, wr, rfl, hj, rfl, rfl, hby⟩ := hrel
        have HBY := Lib.hid hby
        have hzy := hby.size
        by_cases hlt2 : j < k
        · obtain ⟨ad, m, rfl, hBa, Hm, e0, e1, e2, e3⟩ := (HRI.out.rd.below hby).at_ hlt2
          have hmK : m ∈ K := by rw [← Hm.out]; exact getD_mem (by rw [HL.out]; exact hlt2)
          have HMK := Lib.hid hmK
          have hBw : (ad.add (j * 4)).block < wr.heap.size := by omega
          have HAL : Hid (∀ (w : World) o, Below w.heap.size w (w.alloc o)) := fun w o => (Below.refl _ _).alloc (Nat.le_refl _) o
          have HSA : Hid (∀ w, Below wr.heap.size wr w → SetK w B s b K ∧ RefIn w r (some ad) k c K) := fun w hb => ⟨((HS.out.below HBY.out).below hb).set, (HRI.out.below HBY.out).below hb⟩
          clear hby hmK
          go_wp2_with (go_at_call 29; (with_reducible refine (get_k _ B s b K m (HSA.out _ (HAL.out _ _)).1 HMK.out).mono ?_); rintro e w3 ⟨rfl, hd3⟩; have HD3 := Lib.hid hd3; have hz3 := hd3.size; clear hd3)
          obtain ⟨X, hX⟩ : ∃ X, X = w3.alloc (.cells #[.int .i64 m.id, .int .i64 m.fr, .int .i64 m.to, .int .i64 m.pr] 30 (0, 0)) := ⟨_, rfl⟩
          have HW3 : Hid (Below wr.heap.size wr w3) := (HAL.out _ _).trans (HD3.out.mono (by simp))
          have HXB : Hid (Below w3.heap.size w3 X) := by rw [hX]; exact HAL.out _ _
          have hz3' : wr.heap.size < w3.heap.size := by simp at hz3; omega
          have HWX : Hid (Below wr.heap.size wr X) := HW3.out.trans (HXB.out.mono (by omega))
          have hzX : w3.heap.size < X.heap.size := by rw [hX]; simp
          have q0 : X.heap[w3.heap.size]? = some (.cells #[.int .i64 m.id, .int .i64 m.fr, .int .i64 m.to, .int .i64 m.pr] 30 (0, 0)) := by rw [hX]; exact heap_new _ _
          have q1 : X.heap[wr.heap.size]? = some (.cells #[.int .i64 m.id, .int .i64 m.fr, .int .i64 m.to, .int .i64 m.pr] 30 (0, 0)) := (HXB.out.block _ hz3').trans ((HD3.out.block _ (by simp)).trans (heap_new _ _))
          have HC : Hid (∀ w', Below X.heap.size X w' → w'.cell? ⟨wr.heap.size, 0, none⟩ = some (.int .i64 m.id) ∧ w'.cell? ⟨wr.heap.size, 1, none⟩ = some (.int .i64 m.fr) ∧ w'.cell? ⟨wr.heap.size, 2, none⟩ = some (.int .i64 m.to) ∧ w'.cell? ⟨wr.heap.size, 3, none⟩ = some (.int .i64 m.pr) ∧ w'.cell? ⟨w3.heap.size, 0, none⟩ = some (.int .i64 m.id) ∧ w'.cell? ⟨w3.heap.size, 1, none⟩ = some (.int .i64 m.fr) ∧ w'.cell? ⟨w3.heap.size, 2, none⟩ = some (.int .i64 m.to) ∧ w'.cell? ⟨w3.heap.size, 3, none⟩ = some (.int .i64 m.pr)) := fun w' hb => by
            have r0 := (hb.block _ hzX).trans q0
            have r1 := (hb.block wr.heap.size (by omega)).trans q1
            exact ⟨cell_of_row w' _ 0 _ _ _ r1, cell_of_row w' _ 1 _ _ _ r1, cell_of_row w' _ 2 _ _ _ r1, cell_of_row w' _ 3 _ _ _ r1, cell_of_row w' _ 0 _ _ _ r0, cell_of_row w' _ 1 _ _ _ r0, cell_of_row w' _ 2 _ _ _ r0, cell_of_row w' _ 3 _ _ _ r0⟩
          obtain ⟨v, HV⟩ : ∃ v : Int, Hid ((depN [] K m.id : Int) = v) := ⟨_, rfl⟩
          have HSX : Hid (∀ w, Below X.heap.size X w → SetK w B s b K ∧ RefIn w r (some ad) k c K) := fun w hb => HSA.out w (HWX.out.trans (hb.mono (by omega)))
          have hn2 : k ≤ 1000 := by omega
          rw [← hX]
          clear hX q0 q1 e0 e1 e2 e3
          go_region_held3 (fun w' => w'.cell? ⟨wr.heap.size, 0, none⟩ = some (.int .i64 m.id) ∧ w'.cell? ⟨wr.heap.size, 1, none⟩ = some (.int .i64 m.fr) ∧ w'.cell? ⟨wr.heap.size, 2, none⟩ = some (.int .i64 m.to) ∧ w'.cell? ⟨wr.heap.size, 3, none⟩ = some (.int .i64 m.pr) ∧ w'.cell? ⟨w3.heap.size, 0, none⟩ = some (.int .i64 m.id) ∧ w'.cell? ⟨w3.heap.size, 1, none⟩ = some (.int .i64 m.fr) ∧ w'.cell? ⟨w3.heap.size, 2, none⟩ = some (.int .i64 m.to) ∧ w'.cell? ⟨w3.heap.size, 3, none⟩ = some (.int .i64 m.pr)) (exact HC.out _ (by repeat (first | exact HYb.out | exact HYa.out | exact Below.refl _ _ | refine Below.drew ?_)))
            ((first
              | (go_at_call 14; (with_reducible refine (depth_k _ B s b K m.id v HV (HSX.out _ (by repeat (first | exact HYb.out | exact HYa.out | exact Below.refl _ _ | refine Below.drew ?_))).1).mono ?_); rintro e u1 ⟨rfl, hda⟩; have HYa : Hid (Below X.heap.size X u1) := Below.trans (by repeat (first | exact HYb.out | exact HYa.out | exact Below.refl _ _ | refine Below.drew ?_)) (hda.mono (by first | exact Nat.le_refl _ | exact HYb.out.size | exact HYa.out.size)); clear hda)
              | (go_at_call 20; (with_reducible refine (rdepth_any _ r (some ad) k c K m.id v HV (HSX.out _ (by repeat (first | exact HYb.out | exact HYa.out | exact Below.refl _ _ | refine Below.drew ?_))).2 HID.out hn2).mono ?_); rintro e u2 ⟨rfl, hdb⟩; have HYb : Hid (Below X.heap.size X u2) := Below.trans (by repeat (first | exact HYb.out | exact HYa.out | exact Below.refl _ _ | refine Below.drew ?_)) (hdb.mono (by first | exact Nat.le_refl _ | exact HYb.out.size | exact HYa.out.size)); clear hdb)))
          all_goals go_wp2
          all_goals exact ⟨⟨j + 1, _, rfl, by omega, by go_num, rfl, HBY.out.trans ((HWX.out.trans (HYb.out.mono (by omega))).mono hzy)⟩, by simp [intOf]; omega⟩
        · clear hby
          go_wp2
          go_ret
          exact ⟨rfl, HBY.out⟩

theorem RdsIds (w : World) (A : Option Addr) (n p base : Nat) (L : List Mk) (ho : w.ownsRow base 3 1 (.slice A n p) n (vids L)) : Rds w w.heap.size 1 A n ((L.map (·.id)).map (Value.int .i64)) := by
  rw [← vids_eq]
  exact Rds.of_own ho
set_option maxRecDepth 100000 in
set_option maxHeartbeats 4000000 in
theorem asked_any (W : World) (B s b r : Nat) (K : List Mk) (x y : Int) (hS : Both W B s b r K) : Calls Try.prog 43 #[.pointer (some ⟨s, 0, none⟩), .pointer (some ⟨r, 0, none⟩), .int .i64 x, .int .i64 y] W fun e w' => e = .returned (.bool true) ∧ Below W.heap.size W w' := by
  obtain ⟨A, n, c, hri, hn⟩ := hS.ref
  have HS := Lib.hid hS
  have HRI := Lib.hid hri
  have hn2 : n ≤ 1000 := by omega
  have hKn := hri.len
  obtain ⟨ns, hns⟩ : ∃ ns, (K.filter (P38 x)).length = ns := ⟨_, rfl⟩
  obtain ⟨ni, hni⟩ : ∃ ni, (K.filter (P39 x y)).length = ni := ⟨_, rfl⟩
  have hns2 : ns ≤ 1000 := by have := List.length_filter_le (P38 x) K; omega
  have hni2 : ni ≤ 1000 := by have := List.length_filter_le (P39 x y) K; omega
  have G1 : Hid (∀ w, Below W.heap.size W w → Calls Try.prog 21 #[.pointer (some ⟨s, 0, none⟩), .int .i64 x] w fun e w' => ∃ A p, e = .returned (.slice A ns p) ∧ w'.ownsRow w.heap.size 3 1 (.slice A ns p) ns (vids (K.filter (P38 x))) ∧ Below w.heap.size w w') := fun w hb => by have h := stab_k w B s b K x (HS.out.below hb).set; rw [hns] at h; exact h
  have G2 : Hid (∀ w, Below W.heap.size W w → Calls Try.prog 22 #[.pointer (some ⟨s, 0, none⟩), .int .i64 x, .int .i64 y] w fun e w' => ∃ A p, e = .returned (.slice A ni p) ∧ w'.ownsRow w.heap.size 3 1 (.slice A ni p) ni (vids (K.filter (P39 x y))) ∧ Below w.heap.size w w') := fun w hb => by have h := within_k w B s b K x y (HS.out.below hb).set; rw [hni] at h; exact h
  have G3 : Hid (∀ w, Below W.heap.size W w → Calls Try.prog 52 #[.pointer (some ⟨r, 0, none⟩), .int .i64 x] w fun e w' => ∃ A p, e = .returned (.slice A ns p) ∧ w'.ownsRow w.heap.size 3 1 (.slice A ns p) ns (vids (K.filter (P38 x))) ∧ Below w.heap.size w w') := fun w hb => by have h := rstab_any w r A n c K x (HRI.out.below hb) hn2; rw [hns] at h; exact h
  have G4 : Hid (∀ w, Below W.heap.size W w → Calls Try.prog 53 #[.pointer (some ⟨r, 0, none⟩), .int .i64 x, .int .i64 y] w fun e w' => ∃ A p, e = .returned (.slice A ni p) ∧ w'.ownsRow w.heap.size 3 1 (.slice A ni p) ni (vids (K.filter (P39 x y))) ∧ Below w.heap.size w w') := fun w hb => by have h := rwithin_any w r A n c K x y (HRI.out.below hb) hn2; rw [hni] at h; exact h
  clear hri hKn hns hni hS
  go_enter Try.func43, Try.ntmps43
  go_wp2_with (first
    | (go_at_call 21; (with_reducible refine (G1.out W (Below.refl _ _)).mono ?_); rintro e w1 ⟨A1, p1, rfl, ho1, hd1⟩; have HO1 := Lib.hid ho1; have HD1 := Lib.hid hd1; have hz1 := hd1.size; clear ho1 hd1)
    | (go_at_call 22; (with_reducible refine (G2.out w1 HD1.out).mono ?_); rintro e w2 ⟨A2, p2, rfl, ho2, hd2⟩; have HO2 := Lib.hid ho2; have HD2 : Hid (Below W.heap.size W w2) := HD1.out.trans (hd2.mono hz1); have HE2 := Lib.hid hd2; have hz2 := hd2.size; clear ho2 hd2)
    | (go_at_call 52; (with_reducible refine (G3.out w2 HD2.out).mono ?_); rintro e w3 ⟨A3, p3, rfl, ho3, hd3⟩; have HO3 := Lib.hid ho3; have HD3 : Hid (Below W.heap.size W w3) := HD2.out.trans (hd3.mono (by omega)); have HE3 := Lib.hid hd3; have hz3 := hd3.size; clear ho3 hd3)
    | (go_at_call 51; (with_reducible refine (sameInts_yes w3 A1 A3 ns p1 p3 ((K.filter (P38 x)).map (·.id)) (((RdsIds w1 A1 ns p1 _ _ HO1.out).below (HE2.out.trans (HE3.out.mono hz2))).more (by omega)) (RdsIds w3 A3 ns p3 _ _ HO3.out) hns2).mono ?_); rintro e w4 ⟨rfl, hd4⟩; have HD4 : Hid (Below W.heap.size W w4) := HD3.out.trans (hd4.mono (by omega)); have HE4 := Lib.hid hd4; have hz4 := hd4.size; clear hd4)
    | (go_at_call 53; (with_reducible refine (G4.out w4 HD4.out).mono ?_); rintro e w5 ⟨A5, p5, rfl, ho5, hd5⟩; have HO5 := Lib.hid ho5; have HD5 : Hid (Below W.heap.size W w5) := HD4.out.trans (hd5.mono (by omega)); have HE5 := Lib.hid hd5; have hz5 := hd5.size; clear ho5 hd5)
    | (go_at_call 51; (with_reducible refine (sameInts_yes w5 A2 A5 ni p2 p5 ((K.filter (P39 x y)).map (·.id)) (((RdsIds w2 A2 ni p2 _ _ HO2.out).below (HE3.out.trans ((HE4.out.trans (HE5.out.mono hz4)).mono hz3))).more (by omega)) (RdsIds w5 A5 ni p5 _ _ HO5.out) hni2).mono ?_); rintro e w6 ⟨rfl, hd6⟩; have HD6 : Hid (Below W.heap.size W w6) := HD5.out.trans (hd6.mono (by omega)); have HE6 := Lib.hid hd6; clear hd6))
  have HW1 : Hid (Below w1.heap.size w1 w6) := HE2.out.trans ((HE3.out.trans ((HE4.out.trans ((HE5.out.trans (HE6.out.mono hz5)).mono hz4)).mono hz3)).mono hz2)
  have HRW : Hid (Row w6 W.heap.size 3 1 A1 ns p1) := ⟨_, own_below HO1.out HW1.out fun k hk => (HO1.out.lt k hk).2⟩
  clear G1 G2 G3 G4
  go_loopw [35] (fun i wr => ∃ (k : Nat) (w0 : World), w0 = wr ∧ k ≤ ns ∧ i = .int .i64 k ∧ Hid (Row wr W.heap.size 3 1 A1 ns p1) ∧ Below W.heap.size W wr) (fun i _ => ns - (intOf i).toNat)
  case atStart => exact ⟨0, _, rfl, Nat.zero_le _, rfl, HRW.out, HD6.out⟩
  case round =>
    obtain ⟨k, wr, rfl, hk, rfl, HR, hbx⟩ := hrel
    have HBX := Lib.hid hbx
    clear hbx
    by_cases hlt : k < ns
    · obtain ⟨g, v, rfl, hg1, hg2, y0, y1, hst⟩ := HR.out.at_ (j := 0) hlt (by omega)
      simp only [Nat.mul_one, Nat.add_zero] at y0 y1 hst
      have HST := Lib.hid hst
      clear hst
      go_wp2
      exact ⟨⟨k + 1, _, rfl, by omega, by go_num, HST.out _, HBX.out.setCell (show W.heap.size ≤ g by omega) _⟩, by simp [intOf]; omega⟩
    · go_wp2
      go_ret
      exact ⟨rfl, HBX.out⟩
end Go.Proofs.Ytkibhinpbpgkeaa
