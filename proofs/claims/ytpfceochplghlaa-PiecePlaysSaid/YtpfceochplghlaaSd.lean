/- The walk of play. -/
import Derived.Test.YtpfceochplghlaaSc
namespace Go.Proofs.Ytpfceochplghlaa
open Go.RowKit
attribute [local go_sem ↓] Go.wp_at_zero Go.wp_at_succ

theorem box4 {w : World} {q : Nat} {how pl ct : Int} {B : Option Addr} {m d : Nat} (h : w.heap[q]? = some (.cells #[.int .i64 how, .int .i64 pl, .int .i64 ct, .slice B m d] 44 (0, 0))) : w.cell? ⟨q, 0, none⟩ = some (.int .i64 how) ∧ w.cell? ⟨q, 1, none⟩ = some (.int .i64 pl) ∧ w.cell? ⟨q, 2, none⟩ = some (.int .i64 ct) ∧ w.cell? ⟨q, 3, none⟩ = some (.slice B m d) :=
  ⟨cell_of_row w q 0 _ _ _ h, cell_of_row w q 1 _ _ _ h, cell_of_row w q 2 _ _ _ h, cell_of_row w q 3 _ _ _ h⟩
theorem PairAv.below {N : Nat} {w w' : World} {t r K : Nat} (h : PairAv N w t r K) (hb : Below w.heap.size w w') : PairAv N w' t r K := by
  obtain ⟨F, G, T, h1, h2, h3⟩ := h
  exact ⟨F, G, T, h1.below hb, h2.below hb, h3⟩
theorem blk_some (g : Nat) : blk (some ⟨g, 0, none⟩) = [g] := rfl

set_option maxRecDepth 100000 in
set_option maxHeartbeats 8000000 in
theorem play_any (N : Nat) (W : World) (t r : Nat) (E : Option Addr) (l cl : Nat) (L : List Dd) (hp : PairAt N W t r) (hd : RdD W N E l L) (hNW : N ≤ W.heap.size) :
    Calls Try.prog 31 #[.pointer (some ⟨t, 0, none⟩), .pointer (some ⟨r, 0, none⟩), .slice E l cl] W fun e w' => e = .returned (.bool true) ∧ Below N W w' := by
  have HP0 := Lib.hid hp
  have HD := Lib.hid hd
  have HNW := Lib.hid hNW
  clear hp hd hNW
  go_enter Try.func31, Try.ntmps31
  go_wp2
  go_loopw [0, 7] (fun x0 x7 wr => ∃ (i u : Nat) (w0 : World), w0 = wr ∧ i ≤ l ∧ x7 = .int .i64 i ∧ x0 = .pointer (some ⟨u, 0, none⟩) ∧ Hid (PairAt N wr u r) ∧ Hid (Below N W wr)) (fun _ x7 _ => l - (intOf x7).toNat)
  case atStart => exact ⟨0, t, _, rfl, Nat.zero_le _, rfl, rfl, HP0.out, Below.refl _ _⟩
  case round =>
    obtain ⟨i, t, wr, rfl, hi, rfl, rfl, HT, HB⟩ := hrel
    by_cases hlt : i < l
    · by_cases hlt4 : i < 40
      · obtain ⟨ad, m, rfl, hadB, HM, y0, y1, y2, y3, hpt⟩ := (HD.out.below HB.out).at_ hlt
        obtain ⟨how, pl, ct, B, m, d, zs⟩ := m
        simp only at y0 y1 y2 y3
        have HPT : Hid (Rds wr N 1 B m (zs.map (Value.int .i32))) := hpt.1
        have hmd := hpt.2.1
        have hdb := hpt.2.2.2
        simp only at hmd hdb
        have hmb : m * 4 ≤ 140737488351232 := by omega
        have hJ1 : (0 : Int) ≤ (i : Int) ∧ (i : Int) < (l : Int) := by omega
        obtain ⟨hJ1a, hJ1b⟩ := hJ1
        have HNr : Hid (N ≤ wr.heap.size) := Nat.le_trans HNW.out HB.out.size
        have HX0 : Hid (Below wr.heap.size wr (wr.alloc (.cells #[.int .i64 how, .int .i64 pl, .int .i64 ct, .slice B m d] 44 (0, 0)))) := (Below.refl _ _).alloc (Nat.le_refl _) _
        have HXQ : Hid ((wr.alloc (.cells #[.int .i64 how, .int .i64 pl, .int .i64 ct, .slice B m d] 44 (0, 0))).heap[wr.heap.size]? = some (.cells #[.int .i64 how, .int .i64 pl, .int .i64 ct, .slice B m d] 44 (0, 0))) := heap_alloc_new _ _
        have HXZ : Hid ((wr.alloc (.cells #[.int .i64 how, .int .i64 pl, .int .i64 ct, .slice B m d] 44 (0, 0))).heap.size = wr.heap.size + 1) := by show _ = _; simp
        obtain ⟨h, hh⟩ : ∃ h, bits BinOp.and IntKind.i64 how 3 = h := ⟨_, rfl⟩
        clear hpt hmd hdb
        by_cases h1 : h = 1
        · subst h1
          go_upto_region 11 with fail
          generalize wr.alloc (.cells #[.int .i64 how, .int .i64 pl, .int .i64 ct, .slice B m d] 44 (0, 0)) = X at *
          obtain ⟨b0, b1, b2, b3⟩ := box4 HXQ.out
          clear y0 y1 y2 y3
          obtain ⟨F, G, T, hT, hR, hF, hG, hdj⟩ := HT.out
          have HTT := Lib.hid (hT.below HX0.out)
          have HRR := Lib.hid (hR.below HX0.out)
          have HPX := Lib.hid (HT.out.below HX0.out)
          have HFG : Hid (∀ g, g ∈ F ∨ g ∈ G → g < wr.heap.size) := fun g hg => by
            rcases hg with hg | hg
            · exact hT.lt g hg
            · exact hR.lt g hg
          have HREST : Hid ((∀ g ∈ F, N ≤ g) ∧ (∀ g ∈ G, N ≤ g) ∧ ∀ g ∈ F, g ∉ G) := ⟨hF, hG, hdj⟩
          have hl1000 := hT.ok.len
          have HTL := Lib.hid (text_len hT.ok)
          obtain ⟨s, hs⟩ : ∃ s, plen T.ps = s := ⟨_, rfl⟩
          have HSS := Lib.hid hs
          rw [hs] at hl1000
          clear hT hR hF hG hdj hs
          cases htb : thereB (plen T.ps) pl ct with
          | false =>
            have HTB := Lib.hid htb
            have HTB2 : Hid (thereB s pl ct = false) := by rw [← HSS.out]; exact htb
            clear htb
            go_upto_region 14 with (first
              | (go_at_call 47; (with_reducible refine (slc_no X t F T pl ct HTT.out HTB).mono ?_); rintro e w1 ⟨rfl, rfl⟩)
              | (go_at_call 20; (with_reducible refine (rtext_any X r G T HRR.out).mono ?_); rintro e w2 ⟨v2, rfl, hown2, hb2⟩; rw [HSS.out] at hown2; obtain ⟨A2, c2, rfl, _, _⟩ := own_form hown2; have HO2 := Lib.hid hown2; have HB2 := Lib.hid hb2; obtain ⟨u0, u1, u2, u3⟩ := box4 ((hb2.block _ (by have := HXZ.out; omega)).trans HXQ.out); clear hown2 hb2)
              | (go_at_call 23; (with_reducible refine (within_v s pl ct false HTB2 (by omega) _).mono ?_); rintro e w' ⟨rfl, rfl⟩))
            go_wp2
            go_roundw
            case rel => exact ⟨i + 1, t, _, rfl, by omega, by go_num, rfl, HPX.out.below HB2.out, bmore (HB.out.trans (HX0.out.mono HNr.out)) HNW.out HB2.out⟩
            case measure => simp [intOf]; omega
          | true =>
            have ht2 := htb
            simp only [thereB, decide_eq_true_eq] at ht2
            obtain ⟨a, rfl⟩ : ∃ a : Nat, pl = a := ⟨pl.toNat, by omega⟩
            obtain ⟨k, rfl⟩ : ∃ k : Nat, ct = k := ⟨ct.toNat, by omega⟩
            have hak : a + k ≤ s := by have := HSS.out; omega
            have HTB := Lib.hid htb
            have HTB2 : Hid (thereB s (a : Int) (k : Int) = true) := by rw [← HSS.out]; exact htb
            have hwk : IntKind.i64.wrap ((a : Int) + (k : Int)) = (a : Int) + (k : Int) := IntWalk.i64_in _ (by omega)
            have hk1 : k ≤ 140737488355328 := by omega
            have hk2 : k ≤ 9223372036854775807 := by omega
            clear htb ht2
            go_upto_region 18 with (first
              | (go_at_call 47; (with_reducible refine (slc_ok X t F T a k HTT.out HTB).mono ?_); rintro e w1 ⟨⟨A1, c1, rfl, hown1⟩, hb1⟩; have HO1 := Lib.hid hown1; have HB1 := Lib.hid hb1; have HR1 := Lib.hid (HRR.out.below hb1); have HQ1 := Lib.hid ((hb1.block _ (by have := HXZ.out; omega)).trans HXQ.out); clear hown1 hb1)
              | (go_at_call 20; (with_reducible refine (rtext_any w1 r G T HR1.out).mono ?_); rintro e w2 ⟨v2, rfl, hown2, hb2⟩; rw [HSS.out] at hown2; obtain ⟨A2, c2, rfl, hc2, _⟩ := own_form hown2; obtain ⟨A3, hs3, hr3⟩ := view_rds (Rds.of_own hown2) hc2 hak; have HR3 := Lib.hid hr3; have HB2 := Lib.hid hb2; have HQ2 := Lib.hid ((hb2.block _ (Array.getElem?_eq_some_iff.1 HQ1.out).1).trans HQ1.out); obtain ⟨u0, u1, u2, u3⟩ := box4 HQ2.out; have HO12 := Lib.hid (own_below HO1.out hb2 fun k hk => (HO1.out.lt k hk).2); have HR12 := Lib.hid (Rds.of_own HO12.out); clear hown2 hb2 hr3)
              | (go_at_call 23; (with_reducible refine (within_v s a k true HTB2 (by omega) _).mono ?_); rintro e w' ⟨rfl, rfl⟩)
              | (go_at_call 25; (with_reducible refine (same_self A1 A3 k c1 k _ _ w2.heap.size w2 HR12.out HR3.out hk1).mono ?_); rintro e w3 ⟨rfl, hb3⟩; have HB3 := Lib.hid hb3; have HO13 := Lib.hid (own_below HO12.out hb3 fun k hk => (HO12.out.lt k hk).2); clear hb3))
            go_upto_region 24 with (go_at_call 30; (with_reducible refine (spoil_any w3 X.heap.size A1 k k c1 _ HO13.out (Nat.le_refl _) hk2).mono ?_); rintro e w4 ⟨rfl, hc4⟩; have HC4 := Lib.hid hc4; clear hc4)
            have HBX3 : Hid (Below X.heap.size X w3) := bmore (bmore HB1.out (Nat.le_refl _) HB2.out) (Nat.le_refl _) HB3.out
            have HP4 : Hid (PairAt N w4 t r) := by
              have hge : ∀ g ∈ blk A1, X.heap.size ≤ g := fun g hg => blk_ge HO13.out (Nat.le_refl _) g hg
              have hxz := HXZ.out
              refine ⟨F, G, T, ((HTT.out.below HBX3.out).chg HC4.out fun g hg hf => ?_), ((HRR.out.below HBX3.out).chg HC4.out fun g hg hf => ?_), HREST.out⟩
              · have := hge g hf; have := HFG.out g (.inl hg); omega
              · have := hge g hf; have := HFG.out g (.inr hg); omega
            have HB4 : Hid (Below N W w4) := by
              have hxz := HXZ.out
              have hnr := HNr.out
              have hnx : Below N W w3 := bmore (HB.out.trans (HX0.out.mono HNr.out)) HNW.out HBX3.out
              exact hnx.trans (HC4.out.below (fun g hg => by have := blk_ge HO13.out (Nat.le_refl _) g hg; omega) (Nat.le_trans HNW.out hnx.size))
            go_wp2_with (go_at_call 22; (with_reducible refine (pair_same N w4 t r HP4.out).mono ?_); rintro e w5 ⟨rfl, hb5⟩; have HP5 := Lib.hid (HP4.out.below hb5); have HB5 : Hid (Below N W w5) := bmore HB4.out HNW.out hb5; clear hb5)
            go_roundw
            case rel => exact ⟨i + 1, t, _, rfl, by omega, by go_num, rfl, HP5.out, HB5.out⟩
            case measure => simp [intOf]; omega
        · by_cases h2 : h = 2
          · subst h2
            go_upto_region 20 with fail
            generalize wr.alloc (.cells #[.int .i64 how, .int .i64 pl, .int .i64 ct, .slice B m d] 44 (0, 0)) = X at *
            obtain ⟨F, G, T, hT, hR, hF, hG, hdj⟩ := HT.out
            have HTT := Lib.hid (hT.below HX0.out)
            have HRR := Lib.hid (hR.below HX0.out)
            have HFG : Hid (∀ g, g ∈ F ∨ g ∈ G → g < wr.heap.size) := fun g hg => by
              rcases hg with hg | hg
              · exact hT.lt g hg
              · exact hR.lt g hg
            have HREST : Hid ((∀ g ∈ F, N ≤ g) ∧ (∀ g ∈ G, N ≤ g) ∧ ∀ g ∈ F, g ∉ G) := ⟨hF, hG, hdj⟩
            obtain ⟨v, hv⟩ : ∃ v, outT T 0 0 [122] = v := ⟨_, rfl⟩
            have HV := Lib.hid hv
            clear hT hR hF hG hdj hv y0 y1 y2 y3
            go_upto_region 23 with (first
              | (go_at_call 38; (with_reducible refine (copy_any X t F T HTT.out).mono ?_); rintro e w1 ⟨u, F1, rfl, hin1, hF1, hb1⟩; have HI1 := Lib.hid hin1; have HF1 := Lib.hid hF1; have HB1 := Lib.hid hb1; have HT1 := Lib.hid (HTT.out.below hb1); have HR1 := Lib.hid (HRR.out.below hb1); clear hin1 hF1 hb1)
              | (go_at_call 12; (with_reducible refine (tsp_z w1 t F T v HV HT1.out).mono ?_); rintro e w2 ⟨rfl, hc2⟩; have HC2 := Lib.hid hc2; have HR2 : Hid (RefIn w2 r G T) := HR1.out.chg hc2 (fun g hg hf => HREST.out.2.2 g hf hg); clear hc2)
              | (go_at_call 48; (with_reducible refine (rcopy_any w2 r G T HR2.out).mono ?_); rintro e w3 ⟨r3, G3, rfl, hin3, hG3, hb3⟩; have HI3 := Lib.hid hin3; have HG3 := Lib.hid hG3; have HB3 := Lib.hid hb3; clear hin3 hG3 hb3)
              | (go_at_call 21; (with_reducible refine (rsp_z w3 r3 G3 T v HV HI3.out).mono ?_); rintro e w4 ⟨rfl, hc4⟩; have HC4 := Lib.hid hc4; clear hc4))
            have HP4 : Hid (PairAt N w4 u r) := by
              have hxz := HXZ.out
              have hs2 := HC2.out.size
              have hs1 := HB1.out.size
              have hs3 := HB3.out.size
              have hr3 : w2.heap.size ≤ r3 := HG3.out r3 HI3.out.has
              have hnr := HNr.out
              refine ⟨F1, G, T, ((HI1.out.chg HC2.out fun g hg hf => ?_).below HB3.out).chg HC4.out fun g hg hf => ?_, (HR2.out.below HB3.out).chg HC4.out fun g hg hf => ?_, fun g hg => ?_, HREST.out.2.1, fun g hg hf => ?_⟩
              · have := HF1.out g hg; have := HFG.out g (.inl hf); omega
              · have := HI1.out.lt g hg; simp at hf; omega
              · have := HFG.out g (.inr hg); simp at hf; omega
              · have := HF1.out g hg; omega
              · have := HF1.out g hg; have := HFG.out g (.inr hf); omega
            have HB4 : Hid (Below N W w4) := by
              have hxz := HXZ.out
              have hnr := HNr.out
              have hs1 := HB1.out.size
              have hs2 := HC2.out.size
              have hs3 := HB3.out.size
              have hr3 : w2.heap.size ≤ r3 := HG3.out r3 HI3.out.has
              have hx1 : Below N W w1 := bmore (HB.out.trans (HX0.out.mono HNr.out)) HNW.out HB1.out
              have hx2 : Below N W w2 := hx1.trans (HC2.out.below HREST.out.1 (Nat.le_trans HNW.out hx1.size))
              have hx3 : Below N W w3 := bmore hx2 HNW.out HB3.out
              exact hx3.trans (HC4.out.below (fun g hg => by simp at hg; omega) (Nat.le_trans HNW.out hx3.size))
            go_wp2_with (go_at_call 22; (with_reducible refine (pair_same N w4 u r HP4.out).mono ?_); rintro e w5 ⟨rfl, hb5⟩; have HP5 := Lib.hid (HP4.out.below hb5); have HB5 : Hid (Below N W w5) := bmore HB4.out HNW.out hb5; clear hb5)
            go_roundw
            case rel => exact ⟨i + 1, u, _, rfl, by omega, by go_num, rfl, HP5.out, HB5.out⟩
            case measure => simp [intOf]; omega
          · have hh1 : (h == 1) = false := by simpa using h1
            have hh2 : (h == 2) = false := by simpa using h2
            clear h1 h2
            go_upto_region 6 with fail
            generalize wr.alloc (.cells #[.int .i64 how, .int .i64 pl, .int .i64 ct, .slice B m d] 44 (0, 0)) = X at *
            obtain ⟨b0, b1, b2, b3⟩ := box4 HXQ.out
            clear y0 y1 y2 y3 hh1 hh2 hh
            have HBX : Hid (Rds X X.heap.size 1 B m (zs.map (Value.int .i32))) := (HPT.out.below (HX0.out.mono HNr.out)).more (Nat.le_trans HNr.out HX0.out.size)
            go_upto_region 7 with (go_at_call 28; (with_reducible refine (lend_any B m d zs X HBX.out hmb).mono ?_); rintro e w1 ⟨g, cap, rfl, hown1, hb1⟩; have HO1 := Lib.hid hown1; have HB1 := Lib.hid hb1; clear hown1 hb1)
            have hgb := own_base HO1.out
            have HGX : Hid (wr.heap.size ≤ g ∧ wr.heap.size < g) := by have := HXZ.out; simp only at hgb; exact ⟨by omega, by omega⟩
            have HGL : Hid (g < w1.heap.size) := hgb.2
            have HQ1 := Lib.hid ((HB1.out.block _ (by have := HXZ.out; omega)).trans HXQ.out)
            have HQL : Hid (wr.heap.size < w1.heap.size) := (Array.getElem?_eq_some_iff.1 HQ1.out).1
            have HBW1 : Hid (Below wr.heap.size wr w1) := bmore HX0.out (Nat.le_refl _) HB1.out
            have HPU : Hid (Rds w1 w1.heap.size 1 (some ⟨g, 0, none⟩) m (zs.map (Value.int .i32))) := by
              have ly := HBX.out.int_len
              have h := (Rds.of_own HO1.out).front (m := m) (by omega)
              rw [Nat.mul_one, List.map_append, List.take_append_of_le_length (by simp [ly]), List.take_of_length_le (by simp [ly])] at h
              exact h
            have hm63 : m ≤ 9223372036854775807 := by omega
            have hm70 : m ≤ 70368744177664 := by omega
            have hm263 : m + 2 ≤ 9223372036854775807 := by omega
            obtain ⟨v, hst⟩ := av_tsp N wr w1.drew t r g pl ct (some ⟨g, 0, none⟩) m cap zs HT.out HBW1.out.drew HNr.out HPU.out hm63 (fun _ x hx => by rw [blk_some] at hx; simp at hx; subst hx; exact .inr HGX.out.1) ⟨HGX.out.1, HGL.out⟩
            have HST := Lib.hid hst
            have HWN : Hid (Below N W w1) := HB.out.trans (HBW1.out.mono HNr.out)
            obtain ⟨u0, u1, u2, u3⟩ := box4 HQ1.out
            have hS1 : w1.cell? ⟨wr.heap.size, 1, none⟩ = some (.int .i64 pl) ∧ w1.cell? ⟨wr.heap.size, 2, none⟩ = some (.int .i64 ct) ∧ w1.cell? ⟨wr.heap.size, 3, none⟩ = some (.slice B m d) := ⟨u1, u2, u3⟩
            clear hst hgb b0 b1 b2 b3 u0 u1 u2 u3
            go_region_held3 (fun w' => w'.cell? ⟨wr.heap.size, 1, none⟩ = some (.int .i64 pl) ∧ w'.cell? ⟨wr.heap.size, 2, none⟩ = some (.int .i64 ct) ∧ w'.cell? ⟨wr.heap.size, 3, none⟩ = some (.slice B m d)) (first | exact hS9 | exact hS8 | exact hS7 | exact hS1)
              (first
                | (go_at_call 12; (with_reducible refine HST.out.mono ?_); rintro e w7 ⟨rfl, hh7, hb7, hk7⟩; have HH7 := Lib.hid hh7; have HB7 : Hid (Below N W w7) := (HWN.out.drew).trans hb7; have HS7 : Hid (w1.heap.size ≤ w7.heap.size) := hb7.size; have HQ7 := Lib.hid ((hk7 _ (Nat.le_refl _) HQL.out).trans HQ1.out); have HO7 : Hid (w7.ownsRow X.heap.size 21 1 (.slice (some ⟨g, 0, none⟩) (m + 2) cap) (m + 2) ((zs ++ [-77, -78]).map (Value.int .i32))) := own_keepq HO1.out (K := wr.heap.size) (fun x hx => by rw [blk_some] at hx; simp at hx; subst hx; exact HGX.out.1) hk7; have HPB7 : Hid (Rds w7 w7.heap.size 1 B m (zs.map (Value.int .i32))) := (HPT.out.below ((HBW1.out.mono HNr.out).drew.trans hb7)).more (Nat.le_trans HNr.out (Nat.le_trans HBW1.out.size hb7.size)); have HN7 : Hid (N ≤ w7.heap.size) := Nat.le_trans HNr.out (Nat.le_trans HBW1.out.size hb7.size); have HG7 : Hid (g < w7.heap.size) := Nat.lt_of_lt_of_le HGL.out hb7.size; have HPW7 : Hid (Rds w7 N 1 B m (zs.map (Value.int .i32))) := HPT.out.below ((HBW1.out.mono HNr.out).drew.trans hb7); obtain ⟨t0, hS7⟩ := box4 HQ7.out; clear hh7 hb7 hk7 t0)
                | (go_at_call 21; (with_reducible refine (av_rsp N wr w7 t r g pl ct B m d zs v HH7.out HT.out HN7.out HPB7.out hm63 HG7.out).mono ?_); rintro e w8 ⟨rfl, hp8, hb8, hk8⟩; have HP8 := Lib.hid hp8; have HB8 : Hid (Below N W w8) := HB7.out.trans hb8; have HQ8 := Lib.hid ((hk8 _ (Nat.le_refl _) (Nat.lt_of_lt_of_le HQL.out HS7.out)).trans HQ7.out); have HO8 : Hid (w8.ownsRow X.heap.size 21 1 (.slice (some ⟨g, 0, none⟩) (m + 2) cap) (m + 2) ((zs ++ [-77, -78]).map (Value.int .i32))) := own_keepq HO7.out (K := wr.heap.size) (fun x hx => by rw [blk_some] at hx; simp at hx; subst hx; exact HGX.out.1) hk8; have HPB8 : Hid (Rds w8 w8.heap.size 1 B m (zs.map (Value.int .i32))) := (HPW7.out.below hb8).more (Nat.le_trans HN7.out hb8.size); obtain ⟨t0, hS8⟩ := box4 HQ8.out; clear hp8 hb8 hk8 t0)
                | (go_at_call 29; (with_reducible refine (kept_any g m cap d w8.heap.size X.heap.size B zs w8 HO8.out HPB8.out hm70 (Nat.le_refl _)).mono ?_); rintro e w9 ⟨rfl, q9, hq9⟩; have HB89 : Hid (Below w8.heap.size w8 w9) := (by rw [hq9]; exact below_drewN (Below.refl _ _) q9); have HB9 : Hid (Below N W w9) := bmore HB8.out HNW.out HB89.out; have HO9 : Hid (w9.ownsRow X.heap.size 21 1 (.slice (some ⟨g, 0, none⟩) (m + 2) cap) (m + 2) ((zs ++ [-77, -78]).map (Value.int .i32))) := own_below HO8.out HB89.out (fun k hk => (HO8.out.lt k hk).2); have HP9 : Hid (PairAv N w9 t r g) := HP8.out.below HB89.out; obtain ⟨t0, hS9⟩ := box4 ((HB89.out.block _ (Array.getElem?_eq_some_iff.1 HQ8.out).1).trans HQ8.out); clear hq9 t0))
            all_goals
              clear HST HWN HBW1 HT HPT HBX HQ1 hS1 hS7 hS8 hS9 HQ7 HQ8 HH7 HP8
              go_upto_region 24 with (go_at_call 30; (with_reducible refine (spoil_any w9 X.heap.size (some ⟨g, 0, none⟩) m (m + 2) cap _ HO9.out (Nat.le_add_right _ _) hm263).mono ?_); rintro e w4 ⟨rfl, hc4⟩; have HC4 : Hid (Chg [g] w9 w4) := hc4; clear hc4)
              have HP4 : Hid (PairAt N w4 t r) := HP9.out.chg HC4.out
              have HB4 : Hid (Below N W w4) := HB9.out.trans (HC4.out.below (fun x hx => by simp at hx; subst hx; exact Nat.le_trans HNr.out HGX.out.1) (Nat.le_trans HNW.out HB9.out.size))
              go_wp2_with (go_at_call 22; (with_reducible refine (pair_same N w4 t r HP4.out).mono ?_); rintro e w5 ⟨rfl, hb5⟩; have HP5 := Lib.hid (HP4.out.below hb5); have HB5 : Hid (Below N W w5) := bmore HB4.out HNW.out hb5; clear hb5)
              go_roundw
              case rel => exact ⟨i + 1, t, _, rfl, by omega, by go_num, rfl, HP5.out, HB5.out⟩
              case measure => simp [intOf]; omega
      · have hge : ¬ (i : Int) < 40 := by omega
        go_wp2
        go_ret
        exact ⟨rfl, HB.out⟩
    · go_wp2
      go_ret
      exact ⟨rfl, HB.out⟩
end Go.Proofs.Ytpfceochplghlaa
