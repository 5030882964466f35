/- The walk of Splice: what is done. -/
import Derived.Test.YtpfceochplghlaaO
namespace Go.Proofs.Ytpfceochplghlaa
open Go.RowKit
attribute [local go_sem ↓] Go.wp_at_zero Go.wp_at_succ

/-- What a splice leaves. -/
def SplPost (W : World) (t : Nat) (F : List Nat) (T : Tb) (e : Ending) (w' : World) : Prop :=
  e = .returned (.int .i64 0) ∧ ∃ F', TabIn w' t F' T ∧ (∀ g ∈ F', g ∈ F ∨ W.heap.size ≤ g) ∧ Chg F W w'
/-- What the cutting leaves. -/
def CutAt (W w : World) (t : Nat) (F : List Nat) (T : Tb) (P B Q : List Pc) : Prop :=
  ∃ F', TabIn w t F' ⟨T.fst, T.add, P ++ (B ++ Q)⟩ ∧ (∀ g ∈ F', g ∈ F ∨ W.heap.size ≤ g) ∧ Chg F W w

theorem chg_more {F G : List Nat} {a b c : World} (h : Chg F a b) (k : Chg G b c) (hG : ∀ g ∈ G, g ∈ F ∨ a.heap.size ≤ g) : Chg F a c :=
  ⟨k.os.trans h.os, k.tape.trans h.tape, k.output.trans h.output, Nat.le_trans h.size k.size, fun i hi hn => (k.block i (Nat.lt_of_lt_of_le hi h.size) (fun hm => by
    rcases hG i hm with h1 | h1
    · exact hn h1
    · omega)).trans (h.block i hi hn)⟩


set_option maxRecDepth 100000 in
set_option maxHeartbeats 4000000 in
theorem splice_all (W : World) (t : Nat) (F : List Nat) (T : Tb) (a k : Nat) (A : Option Addr) (m c : Nat) (zs : List Int) (h : TabIn W t F T) (ha : a + k ≤ plen T.ps) (h1 : Hid (mayB zs = true)) (h2 : roomB (plen T.ps) k T.add.length m = true) (hkm : ¬ (k = 0 ∧ m = 0))
    (hr : Rds W W.heap.size 1 A m (zs.map (Value.int .i32))) (hAF : 0 < m → ∀ g ∈ blk A, g ∉ F) :
    Calls Try.prog 12 #[.pointer (some ⟨t, 0, none⟩), .int .i64 a, .int .i64 k, .slice A m c] W (SplPost W t F (splT T a k zs)) := by
  have H := Lib.hid h
  have HR := Lib.hid hr
  have HAF := Lib.hid hAF
  have hok := h.ok
  have hl := hok.len
  have had := hok.add
  have hzm := hr.int_len
  simp only [roomB, decide_eq_true_eq] at h2
  obtain ⟨h2a, h2b⟩ := h2
  have HOK' := Lib.hid (spl_ok (zs := zs) hok ha (by omega) (by omega))
  have HLEN' := Lib.hid (spl_len (zs := zs) ha)
  have h0 : Hid (thereB (plen T.ps) a k = true) := by simp only [Hid, thereB, decide_eq_true_eq]; omega
  obtain ⟨A0, n0, c0, A1, n1, c1, A2, n2, c2, hat, hFF, _⟩ := h
  obtain ⟨z0, z1, z2, z3⟩ := hat.cells
  have hn1 := hat.lens.2.1
  rw [hn1] at had h2b
  have HN1 := Lib.hid hn1
  obtain ⟨P, hP⟩ : ∃ P, (cutP T.ps a).1 = P := ⟨_, rfl⟩
  obtain ⟨R, hR⟩ : ∃ R, (cutP T.ps a).2 = R := ⟨_, rfl⟩
  obtain ⟨B, hB⟩ : ∃ B, (cutP R k).1 = B := ⟨_, rfl⟩
  obtain ⟨Q, hQ⟩ : ∃ Q, (cutP R k).2 = Q := ⟨_, rfl⟩
  have hc1 := cutP_len T.ps a (by omega)
  rw [hP, hR] at hc1
  have hc2 := cutP_len R k (by omega)
  rw [hB, hQ] at hc2
  have hposP : ∀ p ∈ P, 0 < p.ln := by rw [← hP]; exact (cutP_all (P := fun p => 0 < p.ln) T.ps (fun p x _ h0 h1 => ⟨h0, by simp only; omega⟩) a hok.pos).1
  have hfr := cutP_front (R := R) hposP k
  rw [hc1.1, hB, hQ] at hfr
  have HS : Hid (splT T a k zs = ⟨T.fst, T.add ++ zs, (if m = 0 then P else extP P n1 m) ++ Q⟩) := by
    unfold Hid splT
    rw [hP, hR, hQ, hn1, hzm]
  have hpl : plen (P ++ (B ++ Q)) = plen T.ps := by rw [plen_append, plen_append]; omega
  have HPL := Lib.hid hpl
  have HFR := Lib.hid hfr
  obtain ⟨l, hll⟩ : ∃ l, plen T.ps = l := ⟨_, rfl⟩
  rw [hll] at z3 hl ha h2a
  have HLL := Lib.hid hll
  have hw1 : IntKind.i64.wrap ((l : Int) - k) = ((l - k : Nat) : Int) := by rw [show (l : Int) - k = ((l - k : Nat) : Int) from by omega]; exact IntWalk.i64_in _ (by omega)
  obtain ⟨d, hd⟩ : ∃ d, l - k = d := ⟨_, rfl⟩
  rw [hd] at hw1 h2a
  have hw2 : IntKind.i64.wrap (1000 - (d : Int)) = 1000 - (d : Int) := IntWalk.i64_in _ (by omega)
  have hw3 : IntKind.i64.wrap (20000 - (n1 : Int)) = 20000 - (n1 : Int) := IntWalk.i64_in _ (by omega)
  have hf : ¬ 1000 - (d : Int) < (m : Int) := by omega
  have hg : ¬ 20000 - (n1 : Int) < (m : Int) := by omega
  have hm63 : m ≤ 9223372036854775807 := by omega
  have hak : IntKind.i64.wrap ((a : Int) + (k : Int)) = ((a + k : Nat) : Int) := by rw [show (a : Int) + (k : Int) = ((a + k : Nat) : Int) from by omega]; exact IntWalk.i64_in _ (by omega)
  have HA : Hid (a ≤ plen T.ps) := by show a ≤ plen T.ps; omega
  have HAK : Hid (a + k ≤ plen (P ++ R)) := by show a + k ≤ plen (P ++ R); rw [plen_append]; omega
  obtain ⟨ak, hakn⟩ : ∃ ak, a + k = ak := ⟨_, rfl⟩
  rw [hakn] at hak HAK HFR
  have hP' := Lib.hid hP
  have hR' := Lib.hid hR
  have hB' := Lib.hid hB
  have hQ' := Lib.hid hQ
  have HD := Lib.hid hd
  have HK := Lib.hid ha
  clear hFF hr hAF hok hat hn1 hll z0 z2 hd hpl hfr hzm hposP hc1 hc2 hP hR hB hQ hakn
  have HC : Hid (∀ w, PartPost W t F T a (.returned (.int .i64 (P.length : Nat))) w → True) := fun _ _ => trivial
  clear HC
  have HK1 : ∀ e w, PartPost W t F T a e w → e = .returned (.int .i64 (P.length : Nat)) ∧ ∃ F', TabIn w t F' ⟨T.fst, T.add, P ++ R⟩ ∧ (∀ g ∈ F', g ∈ F ∨ W.heap.size ≤ g) ∧ Chg F W w := by
    rintro e w ⟨he, F', r⟩
    rw [hP'.out] at he
    rw [hP'.out, hR'.out] at r
    exact ⟨he, F', r⟩
  have HK2 : ∀ (w1 : World) (F1 : List Nat) e w, PartPost w1 t F1 ⟨T.fst, T.add, P ++ R⟩ ak e w → e = .returned (.int .i64 ((P ++ B).length : Nat)) ∧ ∃ F', TabIn w t F' ⟨T.fst, T.add, P ++ (B ++ Q)⟩ ∧ (∀ g ∈ F', g ∈ F1 ∨ w1.heap.size ≤ g) ∧ Chg F1 w1 w := by
    rintro w1 F1 e w ⟨he, F', r⟩
    simp only [HFR.out] at he r
    rw [List.append_assoc] at r
    exact ⟨he, F', r⟩
  obtain ⟨pi, hpi⟩ : ∃ i, P.length = i := ⟨_, rfl⟩
  obtain ⟨pj, hpj⟩ : ∃ i, (P ++ B).length = i := ⟨_, rfl⟩
  rw [hpi] at HK1
  rw [hpj] at HK2
  have HPI := Lib.hid hpi
  have HPJ := Lib.hid hpj
  have HK1' := Lib.hid HK1
  have HK2' := Lib.hid HK2
  clear HK1 HK2 hpi hpj
  by_cases hk0 : k = 0
  · have hk0' : ¬ (0 : Int) < (k : Int) := by omega
    have hk0'' : ((k : Int) == 0) = true := by simp; omega
    have hm0'' : ((m : Int) == 0) = false := by simp; omega
    have hBQ : B = [] ∧ Q = R := by rw [← hB'.out, ← hQ'.out, hk0, cutP_zero]; exact ⟨rfl, rfl⟩
    have HBQ := Lib.hid hBQ
    have HK0 := Lib.hid hk0
    have hij : pi = pj := by rw [← HPI.out, ← HPJ.out, hBQ.1, List.append_nil]
    subst hij
    clear hk0 hBQ
    go_enter Try.func12, Try.ntmps12
    go_upto_region 15 with (first
      | (go_at_call 34; (with_reducible refine (there_any W t _ T a k true h0 H.out).mono ?_); rintro e w' ⟨rfl, rfl⟩)
      | (go_at_call 32; (with_reducible refine (may_any A m c _ zs true h1 W HR.out hm63).mono ?_); rintro e w' ⟨rfl, rfl⟩)
      | (go_at_call 35; (with_reducible refine (part_any W t F T a H.out HA.out).mono ?_); rintro e w1 hp1; have hp1 := HK1'.out _ _ hp1; obtain ⟨rfl, F1, hp1⟩ := hp1; have HP1 := Lib.hid hp1; clear hp1))
    have HCUT : Hid (CutAt W w1 t F T P B Q) := by
      obtain ⟨q1, q2, q3⟩ := HP1.out
      refine ⟨F1, ?_, q2, q3⟩
      rw [HBQ.out.1, HBQ.out.2]
      exact q1
    generalize w1 = wz at *
    clear HP1
    obtain ⟨F2, hin2, hF2, hC2⟩ := HCUT.out
    obtain ⟨B0, d0, e0, B1, d1, e1, B2, d2, e2, hat2, hFe, _⟩ := hin2
    have HT2 := Lib.hid hat2.toL
    have hl2 := hat2.lens
    simp only at hl2
    have hd1 : d1 = n1 := by rw [← hl2.2.1]; exact HN1.out
    subst hd1
    have hd2 := hl2.2.2
    have HPL' : Hid (plen (P ++ (B ++ Q)) = l) := HPL.out.trans HLL.out
    have hsz2 := hC2.size
    have HF2 : Hid (∀ g ∈ t :: (blk B0 ++ blk B1 ++ blk B2), g ∈ F ∨ W.heap.size ≤ g) := hFe ▸ hF2
    have HC2 := Lib.hid hC2
    rw [List.length_append, List.length_append] at hd2
    have hpi := HPI.out
    have hpj := HPJ.out
    rw [List.length_append] at hpj
    have hdel := delete_any wz 0 B2 d2 e2 pi pi (P ++ (B ++ Q)) hat2.r2 (by omega) (by omega)
    obtain ⟨d3, hd3⟩ : ∃ d3, d2 - (pi - pi) = d3 := ⟨_, rfl⟩
    have htk : (P ++ (B ++ Q)).take pi ++ (P ++ (B ++ Q)).drop pi = P ++ Q := by
      rw [List.take_left' hpi, ← List.append_assoc, List.drop_left' (by rw [List.length_append]; omega)]
    rw [hd3, htk] at hdel
    have HDEL := Lib.hid hdel
    have htz : t < wz.heap.size := HT2.out.lt t (by simp)
    have HD3 : Hid (pi ≤ d3) := by show pi ≤ d3; omega
    have HD3' : Hid (d3 = (P ++ Q).length) := by show d3 = (P ++ Q).length; rw [List.length_append]; omega
    obtain ⟨y0, y1, y2, y3⟩ := HT2.out.cells
    clear y0 y1 y3 htk hd3 hdel hpi hpj hd2 hsz2 hC2 hF2 hFe hl2 hat2
    go_upto_region 16 with (go_at_call 36; (with_reducible refine HDEL.out.mono ?_); rintro e w3 ⟨rfl, hown3, hcg3⟩; have HOW3 := Lib.hid hown3; have HCG3 := Lib.hid hcg3; have htw3 : t < w3.heap.size := Nat.lt_of_lt_of_le htz hcg3.size; have htf3 : w3.frozen? ⟨t, 2, none⟩ = false := (World.frozen?_of_block (a := ⟨t, 2, none⟩) (hcg3.block t htz fun hm => (HT2.out.apart.2.2 t hm).1 rfl)).trans (HT2.out.free 2); have htz3 : w3.cell? ⟨t, 2, none⟩ = some (.slice B2 d2 e2) := (World.cell?_of_block (a := ⟨t, 2, none⟩) (hcg3.block t htz fun hm => (HT2.out.apart.2.2 t hm).1 rfl)).trans HT2.out.cells.2.2.1; clear hown3 hcg3)
    have HT3 := Lib.hid (HT2.out.pieces HCG3.out HOW3.out (fun g hg => .inl hg))
    have HCW : Hid (Chg F W (w3.setCell ⟨t, 2, none⟩ (.slice B2 d3 e2))) := chg_more (chg_more HC2.out HCG3.out fun g hg => HF2.out g (by simp [hg])) ((Chg.refl [t] _).setCell (p := ⟨t, 2, none⟩) (.inl (by simp)) _) (fun g hg => HF2.out g (by simp at hg; simp [hg]))
    have HTF : Hid (plen (P ++ (B ++ Q)) = l) := HPL'
    generalize hX : w3.setCell ⟨t, 2, none⟩ (.slice B2 d3 e2) = X at HT3 HCW ⊢
    have HTX : Hid (TabL X t B0 d0 e0 B1 d1 e1 B2 d3 e2 ⟨T.fst, T.add, P ++ Q⟩ l) := by
      have h := HT3.out
      simp only [HTF.out] at h
      exact h
    clear HT3 htw3 htf3 htz3 y2 hX
    have hwmk : IntKind.i64.wrap ((m : Int) - (k : Int)) = (m : Int) - (k : Int) := IntWalk.i64_in _ (by omega)
    have hwl : IntKind.i64.wrap ((l : Int) + ((m : Int) - (k : Int))) = ((d + m : Nat) : Int) := by rw [show (l : Int) + ((m : Int) - (k : Int)) = ((d + m : Nat) : Int) from by have := HD.out; omega]; exact IntWalk.i64_in _ (by omega)
    obtain ⟨q, hq⟩ : ∃ q, d + m = q := ⟨_, rfl⟩
    rw [hq] at hwl
    have HQQ : Hid (plen (splT T a k zs).ps = q) := by
      have h1 := HLEN'.out
      have h2 := HLL.out
      have h3 := HD.out
      have h4 := HR.out.int_len
      show _ = q
      omega
    clear hq
    by_cases hm0 : (0 : Int) < (m : Int)
    · have htX : t < X.heap.size := HTX.out.lt t (by simp)
      have HRX : Hid (Rds X X.heap.size 1 A m (zs.map (Value.int .i32))) := (HR.out.chg (Nat.le_refl _) HCW.out (HAF.out (by omega))).more HCW.out.size
      have HFIT : Hid (∀ p ∈ P ++ Q, p.fr + p.ln ≤ 20000) := by
        intro p hp
        have hin := HCUT.out
        obtain ⟨F9, hin9, _⟩ := hin
        have hok9 := hin9.ok
        have hp9 : p ∈ P ++ (B ++ Q) := by
          rcases List.mem_append.1 hp with h | h <;> simp [h]
        have h1 := hok9.fits p hp9
        have h2 := hok9.fst
        have h3 := hok9.add
        unfold Tb.src at h1
        split at h1 <;> omega
      have hd310 : d3 ≤ 10000 := by
        have hin := HCUT.out
        obtain ⟨F9, hin9, _⟩ := hin
        have hok9 := hin9.ok
        have h1 := count_le hok9.pos
        have h2 := hok9.len
        have h3 := HD3'.out
        rw [List.length_append] at h3
        rw [List.length_append, List.length_append] at h1
        omega
      go_upto_region 18 with (go_at_call 37; (with_reducible refine (lay_any X t d0 e0 d1 e1 d3 e2 l pi m c B0 B1 B2 A ⟨T.fst, T.add, P ++ Q⟩ zs HTX.out HRX.out HD3.out hd310 (by omega) HFIT.out).mono ?_); rintro e w5 ⟨rfl, G1, g1, G2, n5, g2, hT5, hG1, hG2, hC5⟩; have HT5 := Lib.hid hT5; have HG1 := Lib.hid hG1; have HG2 := Lib.hid hG2; have HC5 := Lib.hid hC5; obtain ⟨x0, x1, x2, x3⟩ := hT5.cells; have xf := hT5.free 3; have xl := hT5.lt t (by simp); clear hT5 hG1 hG2 hC5 x0 x1 x2)
      go_wp2
      go_ret
      have hT6 := HT5.out.len q
      have hs := HS.out
      have hne : ¬ m = 0 := by omega
      rw [if_neg hne] at hs
      have e1 : (P ++ Q).take pi = P := List.take_left' HPI.out
      have e2 : (P ++ Q).drop pi = Q := List.drop_left' HPI.out
      simp only [e1, e2] at hT6
      rw [← hs] at hT6
      have hCC := chg_more HCW.out HC5.out HF2.out
      have hsx := HCW.out.size
      refine ⟨rfl, _, ⟨_, _, _, _, _, _, _, _, _, hT6.toAt HQQ.out.symm, rfl, HOK'.out⟩, fun g hg => ?_, chg_more hCC ((Chg.refl [t] _).setCell (p := ⟨t, 3, none⟩) (.inl (by simp)) _) (fun g hg => HF2.out g (by simp at hg; simp [hg]))⟩
      simp only [List.mem_cons, List.mem_append] at hg
      rcases hg with h | (h | h) | h
      · exact HF2.out g (by simp [h])
      · exact HF2.out g (by simp [h])
      · rcases HG1.out g h with h | h
        · exact HF2.out g (by simp [h])
        · exact .inr (Nat.le_trans hsx h)
      · rcases HG2.out g h with h | h
        · exact HF2.out g (by simp [h])
        · exact .inr (Nat.le_trans hsx h)
    · first
      | (exfalso; have hkk := HK0.out; omega)
      | (
        have htX : t < X.heap.size := HTX.out.lt t (by simp)
        have xf := HTX.out.free 3
        obtain ⟨x0, x1, x2, x3⟩ := HTX.out.cells
        clear x0 x1 x2
        go_wp2
        go_ret
        have hT6 := HTX.out.len q
        have hs := HS.out
        have hmz : m = 0 := by omega
        have hz : zs = [] := List.eq_nil_of_length_eq_zero (HR.out.int_len.trans hmz)
        rw [if_pos hmz, hz, List.append_nil, ← hz] at hs
        rw [← hs] at hT6
        refine ⟨rfl, _, ⟨_, _, _, _, _, _, _, _, _, hT6.toAt HQQ.out.symm, rfl, HOK'.out⟩, HF2.out, chg_more HCW.out ((Chg.refl [t] _).setCell (p := ⟨t, 3, none⟩) (.inl (by simp)) _) (fun g hg => HF2.out g (by simp at hg; simp [hg]))⟩)
  · have hk0' : (0 : Int) < (k : Int) := by omega
    have hk0'' : ((k : Int) == 0) = false := by simp; omega
    go_enter Try.func12, Try.ntmps12
    go_upto_region 15 with (first
      | (go_at_call 34; (with_reducible refine (there_any W t _ T a k true h0 H.out).mono ?_); rintro e w' ⟨rfl, rfl⟩)
      | (go_at_call 32; (with_reducible refine (may_any A m c _ zs true h1 W HR.out hm63).mono ?_); rintro e w' ⟨rfl, rfl⟩)
      | (go_at_call 35; (with_reducible refine (part_any W t F T a H.out HA.out).mono ?_); rintro e w1 hp1; have hp1 := HK1'.out _ _ hp1; obtain ⟨rfl, F1, hp1⟩ := hp1; have HP1 := Lib.hid hp1; clear hp1)
      | (go_at_call 35; (with_reducible refine (part_any w1 t F1 ⟨T.fst, T.add, P ++ R⟩ ak HP1.out.1 HAK.out).mono ?_); rintro e w2 hp2; have hp2 := HK2'.out _ _ _ _ hp2; obtain ⟨rfl, F2, hp2⟩ := hp2; have HP2 := Lib.hid hp2; clear hp2))
    have HCUT : Hid (CutAt W w2 t F T P B Q) := by
      obtain ⟨q1, q2, q3⟩ := HP1.out
      obtain ⟨r1, r2, r3⟩ := HP2.out
      refine ⟨F2, r1, fun g hg => ?_, chg_more q3 r3 q2⟩
      rcases r2 g hg with h | h
      · exact q2 g h
      · exact .inr (Nat.le_trans q3.size h)
    generalize w2 = wz at *
    clear HP1 HP2
    obtain ⟨F2, hin2, hF2, hC2⟩ := HCUT.out
    obtain ⟨B0, d0, e0, B1, d1, e1, B2, d2, e2, hat2, hFe, _⟩ := hin2
    have HT2 := Lib.hid hat2.toL
    have hl2 := hat2.lens
    simp only at hl2
    have hd1 : d1 = n1 := by rw [← hl2.2.1]; exact HN1.out
    subst hd1
    have hd2 := hl2.2.2
    have HPL' : Hid (plen (P ++ (B ++ Q)) = l) := HPL.out.trans HLL.out
    have hsz2 := hC2.size
    have HF2 : Hid (∀ g ∈ t :: (blk B0 ++ blk B1 ++ blk B2), g ∈ F ∨ W.heap.size ≤ g) := hFe ▸ hF2
    have HC2 := Lib.hid hC2
    rw [List.length_append, List.length_append] at hd2
    have hpi := HPI.out
    have hpj := HPJ.out
    rw [List.length_append] at hpj
    have hdel := delete_any wz 0 B2 d2 e2 pi pj (P ++ (B ++ Q)) hat2.r2 (by omega) (by omega)
    obtain ⟨d3, hd3⟩ : ∃ d3, d2 - (pj - pi) = d3 := ⟨_, rfl⟩
    have htk : (P ++ (B ++ Q)).take pi ++ (P ++ (B ++ Q)).drop pj = P ++ Q := by
      rw [List.take_left' hpi, ← List.append_assoc, List.drop_left' (by rw [List.length_append]; omega)]
    rw [hd3, htk] at hdel
    have HDEL := Lib.hid hdel
    have htz : t < wz.heap.size := HT2.out.lt t (by simp)
    have HD3 : Hid (pi ≤ d3) := by show pi ≤ d3; omega
    have HD3' : Hid (d3 = (P ++ Q).length) := by show d3 = (P ++ Q).length; rw [List.length_append]; omega
    obtain ⟨y0, y1, y2, y3⟩ := HT2.out.cells
    clear y0 y1 y3 htk hd3 hdel hpi hpj hd2 hsz2 hC2 hF2 hFe hl2 hat2
    go_upto_region 16 with (go_at_call 36; (with_reducible refine HDEL.out.mono ?_); rintro e w3 ⟨rfl, hown3, hcg3⟩; have HOW3 := Lib.hid hown3; have HCG3 := Lib.hid hcg3; have htw3 : t < w3.heap.size := Nat.lt_of_lt_of_le htz hcg3.size; have htf3 : w3.frozen? ⟨t, 2, none⟩ = false := (World.frozen?_of_block (a := ⟨t, 2, none⟩) (hcg3.block t htz fun hm => (HT2.out.apart.2.2 t hm).1 rfl)).trans (HT2.out.free 2); have htz3 : w3.cell? ⟨t, 2, none⟩ = some (.slice B2 d2 e2) := (World.cell?_of_block (a := ⟨t, 2, none⟩) (hcg3.block t htz fun hm => (HT2.out.apart.2.2 t hm).1 rfl)).trans HT2.out.cells.2.2.1; clear hown3 hcg3)
    have HT3 := Lib.hid (HT2.out.pieces HCG3.out HOW3.out (fun g hg => .inl hg))
    have HCW : Hid (Chg F W (w3.setCell ⟨t, 2, none⟩ (.slice B2 d3 e2))) := chg_more (chg_more HC2.out HCG3.out fun g hg => HF2.out g (by simp [hg])) ((Chg.refl [t] _).setCell (p := ⟨t, 2, none⟩) (.inl (by simp)) _) (fun g hg => HF2.out g (by simp at hg; simp [hg]))
    have HTF : Hid (plen (P ++ (B ++ Q)) = l) := HPL'
    generalize hX : w3.setCell ⟨t, 2, none⟩ (.slice B2 d3 e2) = X at HT3 HCW ⊢
    have HTX : Hid (TabL X t B0 d0 e0 B1 d1 e1 B2 d3 e2 ⟨T.fst, T.add, P ++ Q⟩ l) := by
      have h := HT3.out
      simp only [HTF.out] at h
      exact h
    clear HT3 htw3 htf3 htz3 y2 hX
    have hwmk : IntKind.i64.wrap ((m : Int) - (k : Int)) = (m : Int) - (k : Int) := IntWalk.i64_in _ (by omega)
    have hwl : IntKind.i64.wrap ((l : Int) + ((m : Int) - (k : Int))) = ((d + m : Nat) : Int) := by rw [show (l : Int) + ((m : Int) - (k : Int)) = ((d + m : Nat) : Int) from by have := HD.out; omega]; exact IntWalk.i64_in _ (by omega)
    obtain ⟨q, hq⟩ : ∃ q, d + m = q := ⟨_, rfl⟩
    rw [hq] at hwl
    have HQQ : Hid (plen (splT T a k zs).ps = q) := by
      have h1 := HLEN'.out
      have h2 := HLL.out
      have h3 := HD.out
      have h4 := HR.out.int_len
      show _ = q
      omega
    clear hq
    by_cases hm0 : (0 : Int) < (m : Int)
    · have htX : t < X.heap.size := HTX.out.lt t (by simp)
      have HRX : Hid (Rds X X.heap.size 1 A m (zs.map (Value.int .i32))) := (HR.out.chg (Nat.le_refl _) HCW.out (HAF.out (by omega))).more HCW.out.size
      have HFIT : Hid (∀ p ∈ P ++ Q, p.fr + p.ln ≤ 20000) := by
        intro p hp
        have hin := HCUT.out
        obtain ⟨F9, hin9, _⟩ := hin
        have hok9 := hin9.ok
        have hp9 : p ∈ P ++ (B ++ Q) := by
          rcases List.mem_append.1 hp with h | h <;> simp [h]
        have h1 := hok9.fits p hp9
        have h2 := hok9.fst
        have h3 := hok9.add
        unfold Tb.src at h1
        split at h1 <;> omega
      have hd310 : d3 ≤ 10000 := by
        have hin := HCUT.out
        obtain ⟨F9, hin9, _⟩ := hin
        have hok9 := hin9.ok
        have h1 := count_le hok9.pos
        have h2 := hok9.len
        have h3 := HD3'.out
        rw [List.length_append] at h3
        rw [List.length_append, List.length_append] at h1
        omega
      go_upto_region 18 with (go_at_call 37; (with_reducible refine (lay_any X t d0 e0 d1 e1 d3 e2 l pi m c B0 B1 B2 A ⟨T.fst, T.add, P ++ Q⟩ zs HTX.out HRX.out HD3.out hd310 (by omega) HFIT.out).mono ?_); rintro e w5 ⟨rfl, G1, g1, G2, n5, g2, hT5, hG1, hG2, hC5⟩; have HT5 := Lib.hid hT5; have HG1 := Lib.hid hG1; have HG2 := Lib.hid hG2; have HC5 := Lib.hid hC5; obtain ⟨x0, x1, x2, x3⟩ := hT5.cells; have xf := hT5.free 3; have xl := hT5.lt t (by simp); clear hT5 hG1 hG2 hC5 x0 x1 x2)
      go_wp2
      go_ret
      have hT6 := HT5.out.len q
      have hs := HS.out
      have hne : ¬ m = 0 := by omega
      rw [if_neg hne] at hs
      have e1 : (P ++ Q).take pi = P := List.take_left' HPI.out
      have e2 : (P ++ Q).drop pi = Q := List.drop_left' HPI.out
      simp only [e1, e2] at hT6
      rw [← hs] at hT6
      have hCC := chg_more HCW.out HC5.out HF2.out
      have hsx := HCW.out.size
      refine ⟨rfl, _, ⟨_, _, _, _, _, _, _, _, _, hT6.toAt HQQ.out.symm, rfl, HOK'.out⟩, fun g hg => ?_, chg_more hCC ((Chg.refl [t] _).setCell (p := ⟨t, 3, none⟩) (.inl (by simp)) _) (fun g hg => HF2.out g (by simp at hg; simp [hg]))⟩
      simp only [List.mem_cons, List.mem_append] at hg
      rcases hg with h | (h | h) | h
      · exact HF2.out g (by simp [h])
      · exact HF2.out g (by simp [h])
      · rcases HG1.out g h with h | h
        · exact HF2.out g (by simp [h])
        · exact .inr (Nat.le_trans hsx h)
      · rcases HG2.out g h with h | h
        · exact HF2.out g (by simp [h])
        · exact .inr (Nat.le_trans hsx h)
    · first
      | (exfalso; have hkk := HK0.out; omega)
      | (
        have htX : t < X.heap.size := HTX.out.lt t (by simp)
        have xf := HTX.out.free 3
        obtain ⟨x0, x1, x2, x3⟩ := HTX.out.cells
        clear x0 x1 x2
        go_wp2
        go_ret
        have hT6 := HTX.out.len q
        have hs := HS.out
        have hmz : m = 0 := by omega
        have hz : zs = [] := List.eq_nil_of_length_eq_zero (HR.out.int_len.trans hmz)
        rw [if_pos hmz, hz, List.append_nil, ← hz] at hs
        rw [← hs] at hT6
        refine ⟨rfl, _, ⟨_, _, _, _, _, _, _, _, _, hT6.toAt HQQ.out.symm, rfl, HOK'.out⟩, HF2.out, chg_more HCW.out ((Chg.refl [t] _).setCell (p := ⟨t, 3, none⟩) (.inl (by simp)) _) (fun g hg => HF2.out g (by simp at hg; simp [hg]))⟩)
theorem splice_do (W : World) (t : Nat) (F : List Nat) (T : Tb) (a k : Nat) (A : Option Addr) (m c : Nat) (zs : List Int) (h : TabIn W t F T) (ha : a + k ≤ plen T.ps) (h1 : Hid (mayB zs = true)) (h2 : roomB (plen T.ps) k T.add.length m = true) (hkm : ¬ (k = 0 ∧ m = 0))
    (hr : Rds W W.heap.size 1 A m (zs.map (Value.int .i32))) (hAF : ∀ g ∈ blk A, g ∉ F) :
    Calls Try.prog 12 #[.pointer (some ⟨t, 0, none⟩), .int .i64 a, .int .i64 k, .slice A m c] W (SplPost W t F (splT T a k zs)) :=
  splice_all W t F T a k A m c zs h ha h1 h2 hkm hr fun _ => hAF
end Go.Proofs.Ytpfceochplghlaa
