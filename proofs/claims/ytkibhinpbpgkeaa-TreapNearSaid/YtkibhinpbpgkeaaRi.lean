/- The walk of Move of the reference; a set and the reference's set side by side. -/
import Derived.Test.YtkibhinpbpgkeaaRh
namespace Go.Proofs.Ytkibhinpbpgkeaa
open Go.RowKit Go.ChangeMaps

/-- What take leaves, and the mark written anew. -/
theorem ref_mid {W X w2 : World} {r n c n' c' : Nat} {A A' : Option Addr} {K K1 : List Mk} {f o : Value} (h : RefIn W r A n c K) (hX : Below W.heap.size W X) (hz : W.heap.size < X.heap.size)
    (h1 : RefIn w2 r A' n' c' K1) (h2 : ∀ ad, A' = some ad → A = some ad ∨ X.heap.size ≤ ad.block) (h3 : Chg [r] X w2) :
    RefIn ((w2.setCell ⟨W.heap.size, 1, none⟩ f).setCell ⟨W.heap.size, 2, none⟩ o) r A' n' c' K1 ∧ Chg [r] W ((w2.setCell ⟨W.heap.size, 1, none⟩ f).setCell ⟨W.heap.size, 2, none⟩ o) := by
  have hr := h.lt
  have hc : Chg [W.heap.size] w2 ((w2.setCell ⟨W.heap.size, 1, none⟩ f).setCell ⟨W.heap.size, 2, none⟩ o) := ((Chg.refl _ _).setCell (p := ⟨W.heap.size, 1, none⟩) (.inl (by simp)) _).setCell (p := ⟨W.heap.size, 2, none⟩) (.inl (by simp)) _
  refine ⟨h1.chg hc (by simp; omega) fun ad e => ?_, ?_⟩
  · rcases h2 ad e with h4 | h4
    · have := h.ltA ad h4
      simp; omega
    · simp; omega
  · exact ((((Chg.of_below hX).trans h3)).setCell (p := ⟨W.heap.size, 1, none⟩) (.inr (Nat.le_refl _)) _).setCell (p := ⟨W.heap.size, 2, none⟩) (.inr (Nat.le_refl _)) _
set_option maxHeartbeats 2000000 in
theorem ref_mov (W : World) (r : Nat) (A : Option Addr) (n c : Nat) (K : List Mk) (i f o : Int) (v : Int) (hv : Hid (movN K i f o = v)) (h : RefIn W r A n c K) (hid : Ids K) (hn : n ≤ 600) : Calls Try.prog 42 #[.pointer (some ⟨r, 0, none⟩), .int .i64 i, .int .i64 f, .int .i64 o] W
    fun e w' => e = .returned (.int .i64 v) ∧ RefLeft W r A (movL K i f o) w' := by
  have H0 := Lib.hid h
  have hl := h.len
  have hr0 := h.lt
  rw [← hv.out]
  by_cases h2 : hasB K i = true
  · obtain ⟨k, m, hk, hm, hi, hf⟩ := fidx_hit h2
    have HX := Lib.hid hf
    have hk0 : 0 ≤ (k : Int) := by omega
    by_cases h1 : mayB f o = false
    · have HV : Hid ((!mayB f o) = true) := by simp [Hid, h1]
      have e1 : movN K i f o = 2 := by simp [movN, h2, h1]
      have e2 : movL K i f o = K := by unfold movL; split <;> simp [h1]
      rw [e1, e2]
      clear e1 e2 h1 h2 hm hi hf h hv
      go_enter Try.func42, Try.ntmps42
      go_wp2_with (first
        | (go_at_call 34; (with_reducible refine (find_any W r A n c K i k HX H0.out (by omega)).mono ?_); rintro e w' ⟨rfl, rfl⟩)
        | (go_at_call 33; (with_reducible refine (bad_v f o true HV _).mono ?_); rintro e w' ⟨rfl, rfl⟩))
      go_ret
      exact ⟨rfl, RefLeft.same H0.out (Below.refl _ _)⟩
    · have h1' : mayB f o = true := by simpa using h1
      have HV : Hid ((!mayB f o) = false) := by simp [Hid, h1']
      have e1 : movN K i f o = 0 := by simp [movN, h2, h1']
      have hmem : m ∈ K := by rw [← hm]; exact getD_mem hk
      have hfo := find_of hid hmem
      rw [hi] at hfo
      have e2 : movL K i f o = ins (del K i) ⟨i, f, o, m.pr⟩ := by unfold movL; simp only [hfo, h1', if_true]
      have hd := del_at hid hk hm
      rw [hi] at hd
      have hkn : k < n := by omega
      have hJ2 : (k : Int) < (n : Int) := by omega
      obtain ⟨ad, x, rfl, hBa, Hm, y0, y1, y2, y3⟩ := h.rd.at_ hkn
      obtain rfl : x = m := Hm.out.symm.trans hm
      have c0 := h.cell
      obtain ⟨X, hX⟩ : ∃ X, X = W.alloc (.cells #[.int .i64 x.id, .int .i64 x.fr, .int .i64 x.to, .int .i64 x.pr] 30 (0, 0)) := ⟨_, rfl⟩
      have HBX : Hid (Below W.heap.size W X) := by rw [hX]; exact (Below.refl _ _).alloc (Nat.le_refl _) _
      have HK : Hid (X.heap[W.heap.size]? = some (.cells #[.int .i64 x.id, .int .i64 x.fr, .int .i64 x.to, .int .i64 x.pr] 30 (0, 0))) := by rw [hX]; exact heap_new _ _
      have hzX := heap_lt HK.out
      have HT : Hid (Calls Try.prog 50 #[.pointer (some ⟨r, 0, none⟩), .int .i64 k] X fun e w' => e = .returned (.tuple #[]) ∧ RefLeft X r (some ad) (del K i) w') := by
        have ht := take_ref X r (some ad) n c k K (h.below HBX.out) (by omega) hkn
        rw [hd] at ht
        exact ht
      have hX' := hX.symm
      have HDL : Hid ((del K i).length ≤ 600) := by have h := del_len K i; rw [Hid]; omega
      rw [e1, e2, ← hi]
      rw [← hi] at HT HX HDL
      clear e1 e2 h1 h1' h2 hd hfo hmem hX hm hf h hv
      subst hi
      go_enter Try.func42, Try.ntmps42
      go_wp2_with (first
        | (go_at_call 34; (with_reducible refine (find_any W r (some ad) n c K x.id k HX H0.out (by omega)).mono ?_); rintro e w' ⟨rfl, rfl⟩)
        | (go_at_call 33; (with_reducible refine (bad_v f o false HV _).mono ?_); rintro e w' ⟨rfl, rfl⟩)
        | (go_at_call 50; (with_reducible refine (HT.out).mono ?_); rintro e w2 ⟨rfl, A', n', c', hin, hA, hcg⟩; have hk2 := (hcg.block W.heap.size hzX (by simp; omega)).trans HK.out; have b0 := cell_of_row w2 W.heap.size 0 _ _ _ hk2; have b1 := cell_of_row w2 W.heap.size 1 _ _ _ hk2; have b2 := cell_of_row w2 W.heap.size 2 _ _ _ hk2; have b3 := cell_of_row w2 W.heap.size 3 _ _ _ hk2; have f1 := frozen_of_row w2 W.heap.size 1 _ _ hk2; have f2 := frozen_of_row w2 W.heap.size 2 _ _ hk2; have HM := Lib.hid (ref_mid (f := .int .i64 f) (o := .int .i64 o) H0.out HBX.out hzX hin hA hcg); have HA := Lib.hid hA; have hn' : n' ≤ 600 := (by have h := HDL.out; rw [hin.len] at h; exact h); clear hin hA hcg hk2)
        | (go_at_call 35; (with_reducible refine (put_ref _ r A' n' c' (del K x.id) ⟨x.id, f, o, x.pr⟩ HM.out.1 hn').mono ?_); rintro e w4 ⟨rfl, hl4⟩))
      go_ret
      obtain ⟨A3, n3, c3, g1, g2, g3⟩ := hl4
      refine ⟨rfl, A3, n3, c3, g1, fun ad2 e => ?_, HM.out.2.trans g3⟩
      have hzz := HM.out.2.size
      rcases g2 ad2 e with g4 | g4
      · rcases HA.out ad2 g4 with g5 | g5
        · exact .inl g5
        · right; omega
      · right; omega
  · have h2' : hasB K i = false := by simpa using h2
    have HX := Lib.hid (fidx_miss h2')
    have e1 : movN K i f o = 4 := by simp [movN, h2']
    have e2 : movL K i f o = K := by unfold movL; rw [find_miss (hasB_false h2')]
    rw [e1, e2]
    clear h hv h2 h2' e1 e2
    go_enter Try.func42, Try.ntmps42
    go_wp2_with (go_at_call 34; (with_reducible refine (find_any W r A n c K i (-1) HX H0.out (by omega)).mono ?_); rintro e w' ⟨rfl, rfl⟩)
    go_ret
    exact ⟨rfl, RefLeft.same H0.out (Below.refl _ _)⟩

/-- A set and the reference's, side by side, with the same marks. -/
def Both (W : World) (B s b r : Nat) (K : List Mk) : Prop :=
  ∃ t A n c, SetIn W s b t ∧ t.list = K ∧ RefIn W r A n c K ∧ (∀ g ∈ s :: b :: t.blocks, B ≤ g) ∧ B ≤ r ∧ r ∉ s :: b :: t.blocks ∧ (∀ ad, A = some ad → ad.block ∉ s :: b :: t.blocks) ∧ K.length ≤ 600
section
variable {W w w1 w2 : World} {B s b r : Nat} {K L : List Mk}
theorem Both.below (h : Both W B s b r K) (hb : Below W.heap.size W w) : Both w B s b r K := by
  obtain ⟨t, A, n, c, h1, h2, h3, r⟩ := h
  exact ⟨t, A, n, c, h1.below hb h1.lt, h2, h3.below hb, r⟩
theorem Both.set (h : Both W B s b r K) : SetK W B s b K := by
  obtain ⟨t, A, n, c, h1, h2, h3, h4, _, _, _, h5⟩ := h
  exact ⟨t, h1, h2, h4, h5⟩
theorem Both.ref (h : Both W B s b r K) : ∃ A n c, RefIn W r A n c K ∧ n ≤ 600 := by
  obtain ⟨t, A, n, c, h1, h2, h3, h4, _, _, _, h5⟩ := h
  exact ⟨A, n, c, h3, by rw [← h3.len]; exact h5⟩
theorem left_sub {W : World} {s b : Nat} {t t' : TR} (hb : ∀ g ∈ t'.blocks, g ∈ t.blocks ∨ W.heap.size ≤ g) {x : Nat} (hx : x < W.heap.size) (hn : x ∉ s :: b :: t.blocks) : x ∉ s :: b :: t'.blocks := by
  intro h
  simp only [List.mem_cons, not_or] at h hn
  rcases h with e | e | e
  · exact hn.1 e
  · exact hn.2.1 e
  · rcases hb x e with f | f
    · exact hn.2.2 f
    · omega
theorem left_low {W : World} {s b : Nat} {t t' : TR} (hb : ∀ g ∈ t'.blocks, g ∈ t.blocks ∨ W.heap.size ≤ g) (h4 : ∀ g ∈ s :: b :: t.blocks, B ≤ g) (hB : B ≤ W.heap.size) : ∀ g ∈ s :: b :: t'.blocks, B ≤ g := by
  intro g hg
  simp only [List.mem_cons] at hg
  rcases hg with rfl | rfl | hg
  · exact h4 _ (by simp)
  · exact h4 _ (by simp)
  · rcases hb g hg with f | f
    · exact h4 g (by simp [f])
    · omega
/-- The set's deed first. -/
theorem both_fin1 {t : TR} {A : Option Addr} {n c : Nat} (_h1 : SetIn W s b t) (h3 : RefIn W r A n c K) (h4 : ∀ g ∈ s :: b :: t.blocks, B ≤ g) (h5 : B ≤ r) (h6 : r ∉ s :: b :: t.blocks) (h7 : ∀ ad, A = some ad → ad.block ∉ s :: b :: t.blocks) (hL : L.length ≤ 600)
    (d1 : Left W s b t L w1) (d2 : RefLeft w1 r A L w2) : Both w2 B s b r L ∧ Below B W w2 := by
  have hr := h3.lt
  have hB : B ≤ W.heap.size := by omega
  obtain ⟨t', ht, hl, hb, hc⟩ := d1
  obtain ⟨A', n', c', hi, hA, hc2⟩ := d2
  have hr' : r ∉ s :: b :: t'.blocks := left_sub hb hr h6
  refine ⟨⟨t', A', n', c', ht.chg hc2 (fun g hg hg2 => by simp at hg2; subst hg2; exact hr' hg), hl, hi, left_low hb h4 hB, h5, hr', fun ad e => ?_, hL⟩, ?_⟩
  · rcases hA ad e with f | f
    · exact left_sub hb (h3.ltA ad f) (h7 ad f)
    · intro h
      have := ht.lt _ h
      omega
  · exact (hc.below h4 hB).trans (hc2.below (fun k hk => by simp at hk; omega) (Nat.le_trans hB hc.size))
/-- The reference's deed first. -/
theorem both_fin2 {t : TR} {A : Option Addr} {n c : Nat} (h1 : SetIn W s b t) (h3 : RefIn W r A n c K) (h4 : ∀ g ∈ s :: b :: t.blocks, B ≤ g) (h5 : B ≤ r) (h6 : r ∉ s :: b :: t.blocks) (h7 : ∀ ad, A = some ad → ad.block ∉ s :: b :: t.blocks) (hL : L.length ≤ 600)
    (d1 : RefLeft W r A L w1) (d2 : Left w1 s b t L w2) : Both w2 B s b r L ∧ Below B W w2 := by
  have hr := h3.lt
  have hB : B ≤ W.heap.size := by omega
  obtain ⟨A', n', c', hi, hA, hc2⟩ := d1
  obtain ⟨t', ht, hl, hb, hc⟩ := d2
  have hz := hc2.size
  have hA7 : ∀ ad, A' = some ad → ad.block ∉ s :: b :: t.blocks := fun ad e => by
    rcases hA ad e with f | f
    · exact h7 ad f
    · intro h
      have := h1.lt _ h
      omega
  refine ⟨⟨t', A', n', c', ht, hl, hi.chg hc h6 hA7, left_low hb h4 (by omega), h5, left_sub hb (by omega) h6, fun ad e => left_sub hb (hi.ltA ad e) (hA7 ad e), hL⟩, ?_⟩
  exact (hc2.below (fun k hk => by simp at hk; omega) hB).trans (hc.below h4 (by omega))
end
end Go.Proofs.Ytkibhinpbpgkeaa
