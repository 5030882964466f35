/- The walk of lay. -/
import Derived.Test.YtpfceochplghlaaL
namespace Go.Proofs.Ytpfceochplghlaa
open Go.RowKit
attribute [local go_sem ↓] Go.wp_at_zero Go.wp_at_succ

theorem getD_takeP {L : List Pc} {i k : Nat} (h : k < i) : (L.take i).getD k pc0 = L.getD k pc0 := by
  simp [List.getD, h]
theorem extP_in {L : List Pc} {i fr m : Nat} (hi : 0 < i) (hL : i ≤ L.length) (h1 : (L.getD (i - 1) pc0).add = true) (h2 : (L.getD (i - 1) pc0).fr + (L.getD (i - 1) pc0).ln = fr) :
    extP (L.take i) fr m = L.take (i - 1) ++ [⟨(L.getD (i - 1) pc0).add, (L.getD (i - 1) pc0).fr, (L.getD (i - 1) pc0).ln + m⟩] := by
  have e : (L.take i).length = i := by rw [List.length_take]; omega
  unfold extP
  rw [e, getD_takeP (by omega), if_pos ⟨hi, h1, h2⟩, List.take_take, Nat.min_eq_left (by omega)]
theorem extP_out {L : List Pc} {i fr m : Nat} (hL : i ≤ L.length) (h : ¬ (0 < i ∧ (L.getD (i - 1) pc0).add = true ∧ (L.getD (i - 1) pc0).fr + (L.getD (i - 1) pc0).ln = fr)) :
    extP (L.take i) fr m = L.take i ++ [⟨true, fr, m⟩] := by
  have e : (L.take i).length = i := by rw [List.length_take]; omega
  unfold extP
  rw [e]
  by_cases hi : 0 < i
  · rw [getD_takeP (by omega), if_neg h]
  · rw [if_neg fun hh => hi hh.1]

/-- What lay leaves. -/
def LayPost (W : World) (t : Nat) (A0 : Option Addr) (n0 c0 : Nat) (A1 : Option Addr) (n1 : Nat) (A2 : Option Addr) (T : Tb) (l i m : Nat) (zs : List Int) (e : Ending) (w' : World) : Prop :=
  e = .returned (.tuple #[]) ∧ ∃ A3 c3 A4 n4 c4, TabL w' t A0 n0 c0 A3 (n1 + m) c3 A4 n4 c4 ⟨T.fst, T.add ++ zs, extP (T.ps.take i) n1 m ++ T.ps.drop i⟩ l ∧ (∀ g ∈ blk A3, g ∈ blk A1 ∨ W.heap.size ≤ g) ∧ (∀ g ∈ blk A4, g ∈ blk A2 ∨ W.heap.size ≤ g) ∧ Chg (t :: (blk A0 ++ blk A1 ++ blk A2)) W w'

theorem insert_v (W : World) (A : Option Addr) (n c i q : Nat) (L : List Pc) (x1 x2 : Nat) (h : W.ownsRow 0 53 3 (.slice A n c) n (pcs L)) (hi : i ≤ n) (hn : n ≤ 1000000) (hq : W.heap[q]? = some (.cells #[.bool true, .int .i64 x1, .int .i64 x2] 53 (0, 0))) (hqA : q ∉ blk A) :
    Calls Try.prog 53 #[.slice A n c, .int .i64 i, .slice (some ⟨q, 0, none⟩) 1 1] W fun e w' => ∃ A' c', e = .returned (.slice A' (n + 1) c') ∧ w'.ownsRow 0 53 3 (.slice A' (n + 1) c') (n + 1) (pcs (L.take i ++ [⟨true, x1, x2⟩] ++ L.drop i)) ∧ Chg (blk A) W w' ∧ (∀ ad, A' = some ad → A = some ad ∨ W.heap.size ≤ ad.block) :=
  insert_any W A n c i q L ⟨true, x1, x2⟩ h hi hn hq hqA
theorem own_free {W : World} {n c g k : Nat} {L : List Pc} (h : W.ownsRow 0 53 3 (.slice (some ⟨g, 0, none⟩) n c) n (pcs L)) (j : Nat) (hk : k < n) : W.frozen? ⟨g, j, none⟩ = false := by
  rcases own_row h with ⟨_, h0, _⟩ | ⟨g', cur, e, hb, hg, hl, hnc, hm, ht⟩
  · omega
  · injection e with e
    injection e with e
    subst e
    exact frozen_of_row W g j _ _ hg

set_option maxRecDepth 100000 in
set_option maxHeartbeats 2000000 in
theorem lay_any (W : World) (t n0 c0 n1 c1 n2 c2 l i m c : Nat) (A0 A1 A2 A : Option Addr) (T : Tb) (zs : List Int) (h : TabL W t A0 n0 c0 A1 n1 c1 A2 n2 c2 T l) (hr : Rds W W.heap.size 1 A m (zs.map (Value.int .i32)))
    (hi : i ≤ n2) (hn2 : n2 ≤ 10000) (hn1 : n1 + m ≤ 20000) (hfit : ∀ p ∈ T.ps, p.fr + p.ln ≤ 20000) :
    Calls Try.prog 37 #[.pointer (some ⟨t, 0, none⟩), .int .i64 i, .slice A m c] W (LayPost W t A0 n0 c0 A1 n1 A2 T l i m zs) := by
  obtain ⟨i0, hi0, hz0, hz1, hz2⟩ := info_parts info21
  have HT := Lib.hid h
  have HL := Lib.hid h.lens.2.2
  have HF := Lib.hid hfit
  have HR := Lib.hid hr
  obtain ⟨z0, z1, z2, z3⟩ := h.cells
  have HO := Lib.hid h.r1
  have htl := h.lt t (by simp)
  clear z0 z2 z3 h hfit hr
  go_enter Try.func37, Try.ntmps37
  go_wp2_with (at_builtin; refine append_rds rfl (.tmp 17) (.tmp 18) 23 rfl 0 21 i0 _ 1 4 Try.underlying23 hi0 hz0 hz1 hz2 rfl (by omega) (.slice A1 n1 c1) n1 _ rfl HO.out W.heap.size A m c _ rfl HR.out (oneCell_ints _) (by simp only [maxLen]; omega) (by omega) (by omega) ?_)
  intro v3 w3 hown3 hg3 hat3
  obtain ⟨A3, c3, rfl, _, _⟩ := own_form hown3
  have hc3 := Chg.of_grown hg3
  have hf3 := blk_own hat3
  have HF3 := Lib.hid hf3
  rw [← List.map_append] at hown3
  have H2 := Lib.hid (HT.out.added hc3 hown3 hf3)
  have ht3 : t < w3.heap.size := Nat.lt_of_lt_of_le htl hg3.size
  have hz3 : w3.frozen? ⟨t, 1, none⟩ = false := (World.frozen?_of_block (a := ⟨t, 1, none⟩) (hc3.block t htl fun hm => (HT.out.apart.2.1 t hm).1 rfl)).trans (HT.out.free 1)
  have z1w : w3.cell? ⟨t, 1, none⟩ = some (.slice A1 n1 c1) := (World.cell?_of_block (a := ⟨t, 1, none⟩) (hc3.block t htl fun hm => (HT.out.apart.2.1 t hm).1 rfl)).trans z1
  have z2w : w3.cell? ⟨t, 2, none⟩ = some (.slice A2 n2 c2) := (World.cell?_of_block (a := ⟨t, 2, none⟩) (hc3.block t htl fun hm => (HT.out.apart.2.1 t hm).1 rfl)).trans HT.out.cells.2.2.1
  have HC2 : Hid (Chg (t :: (blk A0 ++ blk A1 ++ blk A2)) W (w3.setCell ⟨t, 1, none⟩ (.slice A3 (n1 + m) c3))) := (hc3.mono fun k hk _ => by simp [hk]).setCell (.inl (by simp)) _
  clear hown3 hg3 hat3 hc3 hf3 z1
  have HI := Lib.hid hi
  by_cases h0 : 0 < i
  · obtain ⟨k, hik⟩ : ∃ k, i = k + 1 := ⟨i - 1, by omega⟩
    have hk : k < n2 := by omega
    obtain ⟨g, p, rfl, hg, hpm, HP, y0, y1, y2⟩ := prow_at H2.out.r2 hk
    have hpf := HF.out p hpm
    obtain ⟨pa, pf, pl⟩ := p
    simp only at hpf y0 y1 y2
    have hwk : IntKind.i64.wrap ((i : Int) - 1) = (k : Int) := by rw [show (i : Int) - 1 = (k : Int) from by omega]; exact IntWalk.i64_in _ (by omega)
    have hwf : IntKind.i64.wrap ((pf : Int) + (pl : Int)) = ((pf + pl : Nat) : Int) := by rw [show (pf : Int) + (pl : Int) = ((pf + pl : Nat) : Int) from by omega]; exact IntWalk.i64_in _ (by omega)
    obtain ⟨s, hs⟩ : ∃ s, pf + pl = s := ⟨_, rfl⟩
    rw [hs] at hwf
    have hkn1 : (0 : Int) ≤ (k : Int) ∧ (k : Int) < (n2 : Int) := by omega
    obtain ⟨hka, hkb⟩ := hkn1
    have h0i : (0 : Int) < (i : Int) := by omega
    have HIK := Lib.hid hik
    have HS := Lib.hid hs
    clear hik hs hi
    cases pa with
    | false =>
      go_wp2
      generalize hX : w3.setCell ⟨t, 1, none⟩ (.slice A3 (n1 + m) c3) = X at *
      clear z1w z2w hz3 ht3
      go_quiet (fail)
      have HE : Hid (extP (T.ps.take i) n1 m = T.ps.take i ++ [⟨true, n1, m⟩]) := extP_out (by rw [HL.out]; exact HI.out) (by rw [show i - 1 = k from by have := HIK.out; omega, HP.out]; simp)
      have H2d := Lib.hid (H2.out.below (below_drewN (Below.refl _ _) nq))
      have HCd := Lib.hid (HC2.out.drewN nq)
      clear H2 HC2 hwf hwk y0 y1 y2 hg
      generalize hY : X.drewN nq = Y at *
      generalize hA2 : (some (⟨g, 0, none⟩ : Addr)) = A2 at *
      have hn3 : n2 ≤ 1000000 := by omega
      have hzY : t < Y.heap.size := Nat.lt_of_lt_of_le htl HCd.out.size
      have HNEW : Hid (TabL (Y.alloc (.cells #[.bool true, .int .i64 n1, .int .i64 m] 53 (0, 0))) t A0 n0 c0 A3 (n1 + m) c3 A2 n2 c2 ⟨T.fst, T.add ++ zs, T.ps⟩ l) := H2d.out.below ((Below.refl _ _).alloc (Nat.le_refl _) _)
      have HQ : Hid (Y.heap.size ∉ blk A2) := fun hm => Nat.lt_irrefl _ (blk_lt H2d.out.r2 _ hm)
      obtain ⟨z0, z1, z2, z3⟩ := H2d.out.cells
      clear z0 z1 z3
      go_wp2_with (go_at_call 53; (with_reducible refine (insert_v _ A2 n2 c2 i _ T.ps n1 m HNEW.out.r2 HI.out hn3 (heap_alloc_new _ _) HQ.out).mono ?_); rintro e w4 ⟨A4, c4, rfl, hown4, hcg4, hfr4⟩; have HOW4 := Lib.hid hown4; have HCG4 := Lib.hid hcg4; have HFR4 := Lib.hid hfr4; have htw4 : t < w4.heap.size := Nat.lt_of_lt_of_le hzY (Nat.le_trans (by simp) hcg4.size); have htf4 : w4.frozen? ⟨t, 2, none⟩ = false := (World.frozen?_of_block (a := ⟨t, 2, none⟩) (hcg4.block t (by simp; omega) fun hm => (HNEW.out.apart.2.2 t hm).1 rfl)).trans (HNEW.out.free 2); have htz4 : w4.cell? ⟨t, 2, none⟩ = some (.slice A2 n2 c2) := (World.cell?_of_block (a := ⟨t, 2, none⟩) (hcg4.block t (by simp; omega) fun hm => (HNEW.out.apart.2.2 t hm).1 rfl)).trans HNEW.out.cells.2.2.1; clear hown4 hcg4 hfr4)
      go_end0
      have hfF : ∀ g ∈ blk A4, g ∈ blk A2 ∨ (Y.alloc (.cells #[.bool true, .int .i64 n1, .int .i64 m] 53 (0, 0))).heap.size ≤ g := fun g hg => by
        cases A4 with
        | none => simp [blk] at hg
        | some a =>
          simp [blk] at hg
          subst hg
          rcases HFR4.out a rfl with h | h
          · left; rw [h]; simp [blk]
          · exact .inr h
      have hlast := HNEW.out.pieces HCG4.out HOW4.out hfF
      have hsz := HCd.out.size
      refine ⟨rfl, A3, c3, A4, n2 + 1, c4, ?_, HF3.out, fun g hg => ?_, ?_⟩
      · rw [HE.out]; exact hlast
      · rcases hfF g hg with h | h
        · exact .inl h
        · right; simp at h; omega
      · exact (HCd.out.trans (((Chg.refl _ _).alloc _).trans (HCG4.out.mono fun k hk _ => by simp [hk]))).setCell (.inl (by simp)) _
    | true =>
      by_cases hsn : s = n1
      · subst hsn
        go_wp2
        generalize hX : w3.setCell ⟨t, 1, none⟩ (.slice A3 (s + m) c3) = X at *
        clear z1w z2w hz3 ht3
        go_quiet (fail)
        have fz : X.frozen? ⟨g, k * 3 + 2, none⟩ = false := own_free H2.out.r2 _ hk
        have hwm : IntKind.i64.wrap ((pl : Int) + (m : Int)) = ((pl + m : Nat) : Int) := by rw [show (pl : Int) + (m : Int) = ((pl + m : Nat) : Int) from by omega]; exact IntWalk.i64_in _ (by omega)
        have HE : Hid (extP (T.ps.take i) s m = T.ps.take k ++ [⟨true, pf, pl + m⟩]) := by
          have e : i - 1 = k := by have := HIK.out; omega
          have h := extP_in (L := T.ps) (fr := s) (m := m) h0 (by rw [HL.out]; exact HI.out) (by rw [e, HP.out]) (by rw [e, HP.out]; exact HS.out)
          rw [e, HP.out] at h
          exact h
        obtain ⟨q, hq⟩ : ∃ q, pl + m = q := ⟨_, rfl⟩
        rw [hq] at hwm HE
        have hlast := Lib.hid ((H2.out.below (below_drewN (Below.refl _ _) nq)).longer hk q)
        have HCd := Lib.hid ((HC2.out.drewN nq).setCell (p := ⟨g, k * 3 + 2, none⟩) (.inl (by simp [blk])) (.int .i64 q))
        clear hq
        go_wp2
        go_end0
        refine ⟨rfl, A3, c3, some ⟨g, 0, none⟩, n2, c2, ?_, HF3.out, fun g hg => .inl hg, HCd.out⟩
        have e : T.ps.drop i = T.ps.drop (k + 1) := by rw [HIK.out]
        rw [HE.out, e]
        have h := hlast.out
        simp only [HP.out] at h
        exact h
      · have hsn1 : ((s : Int) == (n1 : Int)) = false := by simp; omega
        go_wp2
        generalize hX : w3.setCell ⟨t, 1, none⟩ (.slice A3 (n1 + m) c3) = X at *
        clear z1w z2w hz3 ht3
        go_quiet (fail)
        have HE : Hid (extP (T.ps.take i) n1 m = T.ps.take i ++ [⟨true, n1, m⟩]) := extP_out (by rw [HL.out]; exact HI.out) (by rw [show i - 1 = k from by have := HIK.out; omega, HP.out]; have := HS.out; simp; omega)
        have H2d := Lib.hid (H2.out.below (below_drewN (Below.refl _ _) nq))
        have HCd := Lib.hid (HC2.out.drewN nq)
        clear H2 HC2 hwf hwk y0 y1 y2 hg hsn hsn1
        generalize hY : X.drewN nq = Y at *
        generalize hA2 : (some (⟨g, 0, none⟩ : Addr)) = A2 at *
        have hn3 : n2 ≤ 1000000 := by omega
        have hzY : t < Y.heap.size := Nat.lt_of_lt_of_le htl HCd.out.size
        have HNEW : Hid (TabL (Y.alloc (.cells #[.bool true, .int .i64 n1, .int .i64 m] 53 (0, 0))) t A0 n0 c0 A3 (n1 + m) c3 A2 n2 c2 ⟨T.fst, T.add ++ zs, T.ps⟩ l) := H2d.out.below ((Below.refl _ _).alloc (Nat.le_refl _) _)
        have HQ : Hid (Y.heap.size ∉ blk A2) := fun hm => Nat.lt_irrefl _ (blk_lt H2d.out.r2 _ hm)
        obtain ⟨z0, z1, z2, z3⟩ := H2d.out.cells
        clear z0 z1 z3
        go_wp2_with (go_at_call 53; (with_reducible refine (insert_v _ A2 n2 c2 i _ T.ps n1 m HNEW.out.r2 HI.out hn3 (heap_alloc_new _ _) HQ.out).mono ?_); rintro e w4 ⟨A4, c4, rfl, hown4, hcg4, hfr4⟩; have HOW4 := Lib.hid hown4; have HCG4 := Lib.hid hcg4; have HFR4 := Lib.hid hfr4; have htw4 : t < w4.heap.size := Nat.lt_of_lt_of_le hzY (Nat.le_trans (by simp) hcg4.size); have htf4 : w4.frozen? ⟨t, 2, none⟩ = false := (World.frozen?_of_block (a := ⟨t, 2, none⟩) (hcg4.block t (by simp; omega) fun hm => (HNEW.out.apart.2.2 t hm).1 rfl)).trans (HNEW.out.free 2); have htz4 : w4.cell? ⟨t, 2, none⟩ = some (.slice A2 n2 c2) := (World.cell?_of_block (a := ⟨t, 2, none⟩) (hcg4.block t (by simp; omega) fun hm => (HNEW.out.apart.2.2 t hm).1 rfl)).trans HNEW.out.cells.2.2.1; clear hown4 hcg4 hfr4)
        go_end0
        have hfF : ∀ g ∈ blk A4, g ∈ blk A2 ∨ (Y.alloc (.cells #[.bool true, .int .i64 n1, .int .i64 m] 53 (0, 0))).heap.size ≤ g := fun g hg => by
          cases A4 with
          | none => simp [blk] at hg
          | some a =>
            simp [blk] at hg
            subst hg
            rcases HFR4.out a rfl with h | h
            · left; rw [h]; simp [blk]
            · exact .inr h
        have hlast := HNEW.out.pieces HCG4.out HOW4.out hfF
        have hsz := HCd.out.size
        refine ⟨rfl, A3, c3, A4, n2 + 1, c4, ?_, HF3.out, fun g hg => ?_, ?_⟩
        · rw [HE.out]; exact hlast
        · rcases hfF g hg with h | h
          · exact .inl h
          · right; simp at h; omega
        · exact (HCd.out.trans (((Chg.refl _ _).alloc _).trans (HCG4.out.mono fun k hk _ => by simp [hk]))).setCell (.inl (by simp)) _
  · have h0i : ¬ (0 : Int) < (i : Int) := by omega
    have HE : Hid (extP (T.ps.take i) n1 m = T.ps.take i ++ [⟨true, n1, m⟩]) := extP_out (by rw [HL.out]; exact hi) fun h => h0 h.1
    have H2d := H2
    have HCd := HC2
    clear H2 HC2
    go_upto_region 6 with fail
    generalize hY : w3.setCell ⟨t, 1, none⟩ (.slice A3 (n1 + m) c3) = Y at *
    clear z1w z2w hz3 ht3 hi
    have hn3 : n2 ≤ 1000000 := by omega
    have hzY : t < Y.heap.size := Nat.lt_of_lt_of_le htl HCd.out.size
    have HNEW : Hid (TabL (Y.alloc (.cells #[.bool true, .int .i64 n1, .int .i64 m] 53 (0, 0))) t A0 n0 c0 A3 (n1 + m) c3 A2 n2 c2 ⟨T.fst, T.add ++ zs, T.ps⟩ l) := H2d.out.below ((Below.refl _ _).alloc (Nat.le_refl _) _)
    have HQ : Hid (Y.heap.size ∉ blk A2) := fun hm => Nat.lt_irrefl _ (blk_lt H2d.out.r2 _ hm)
    obtain ⟨z0, z1, z2, z3⟩ := H2d.out.cells
    clear z0 z1 z3
    go_wp2_with (go_at_call 53; (with_reducible refine (insert_v _ A2 n2 c2 i _ T.ps n1 m HNEW.out.r2 HI.out hn3 (heap_alloc_new _ _) HQ.out).mono ?_); rintro e w4 ⟨A4, c4, rfl, hown4, hcg4, hfr4⟩; have HOW4 := Lib.hid hown4; have HCG4 := Lib.hid hcg4; have HFR4 := Lib.hid hfr4; have htw4 : t < w4.heap.size := Nat.lt_of_lt_of_le hzY (Nat.le_trans (by simp) hcg4.size); have htf4 : w4.frozen? ⟨t, 2, none⟩ = false := (World.frozen?_of_block (a := ⟨t, 2, none⟩) (hcg4.block t (by simp; omega) fun hm => (HNEW.out.apart.2.2 t hm).1 rfl)).trans (HNEW.out.free 2); have htz4 : w4.cell? ⟨t, 2, none⟩ = some (.slice A2 n2 c2) := (World.cell?_of_block (a := ⟨t, 2, none⟩) (hcg4.block t (by simp; omega) fun hm => (HNEW.out.apart.2.2 t hm).1 rfl)).trans HNEW.out.cells.2.2.1; clear hown4 hcg4 hfr4)
    go_end0
    have hfF : ∀ g ∈ blk A4, g ∈ blk A2 ∨ (Y.alloc (.cells #[.bool true, .int .i64 n1, .int .i64 m] 53 (0, 0))).heap.size ≤ g := fun g hg => by
      cases A4 with
      | none => simp [blk] at hg
      | some a =>
        simp [blk] at hg
        subst hg
        rcases HFR4.out a rfl with h | h
        · left; rw [h]; simp [blk]
        · exact .inr h
    have hlast := HNEW.out.pieces HCG4.out HOW4.out hfF
    have hsz := HCd.out.size
    refine ⟨rfl, A3, c3, A4, n2 + 1, c4, ?_, HF3.out, fun g hg => ?_, ?_⟩
    · rw [HE.out]; exact hlast
    · rcases hfF g hg with h | h
      · exact .inl h
      · right; simp at h; omega
    · exact (HCd.out.trans (((Chg.refl _ _).alloc _).trans (HCG4.out.mono fun k hk _ => by simp [hk]))).setCell (.inl (by simp)) _
end Go.Proofs.Ytpfceochplghlaa
