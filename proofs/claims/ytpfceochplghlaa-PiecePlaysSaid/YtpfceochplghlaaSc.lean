/- A pair of tables and a block that is neither's: the contracts of play. -/
import Derived.Test.YtpfceochplghlaaSb
import Derived.Test.YtpfceochplghlaaDa
namespace Go.Proofs.Ytpfceochplghlaa
open Go.RowKit
attribute [local go_sem ↓] Go.wp_at_zero Go.wp_at_succ

theorem Rds.keepq {w w' : World} {z n K : Nat} {A : Option Addr} {xs : List Value} (h : Rds w w.heap.size z A n xs) (hA : ∀ g ∈ blk A, K ≤ g) (hq : ∀ q, K ≤ q → q < w.heap.size → w'.heap[q]? = w.heap[q]?) (hs : w.heap.size ≤ w'.heap.size) : Rds w' w'.heap.size z A n xs :=
  ⟨h.1, fun j hj => by
    obtain ⟨ad, e, hb, hv⟩ := h.2 j hj
    refine ⟨ad, e, by omega, (World.cell?_of_block ?_).trans hv⟩
    rw [block_add']
    exact hq _ (hA _ (by rw [e]; simp [blk])) hb⟩
theorem own_keepq {w w' : World} {base z n c K : Nat} {e : TypeId} {A : Option Addr} {xs : List Value} (h : w.ownsRow base e z (.slice A n c) n xs) (hA : ∀ g ∈ blk A, K ≤ g) (hq : ∀ q, K ≤ q → q < w.heap.size → w'.heap[q]? = w.heap[q]?) : w'.ownsRow base e z (.slice A n c) n xs := by
  refine ⟨h.1, ?_⟩
  rcases h.2 with h0 | ⟨g, cap, cur, hv, hb, hg, r⟩
  · exact .inl h0
  · injection hv with a1 a2 a3
    subst a1
    subst a3
    exact .inr ⟨g, _, cur, rfl, hb, (hq g (hA g (by simp [blk])) (Array.getElem?_eq_some_iff.1 hg).1).trans hg, r⟩
def PairAv (N : Nat) (w : World) (t r K : Nat) : Prop := ∃ F G T, TabIn w t F T ∧ RefIn w r G T ∧ (∀ g ∈ F, N ≤ g) ∧ (∀ g ∈ G, N ≤ g) ∧ (∀ g ∈ F, g ∉ G) ∧ K ∉ F ∧ K ∉ G
theorem PairAv.at_ {N : Nat} {w : World} {t r K : Nat} (h : PairAv N w t r K) : PairAt N w t r := by
  obtain ⟨F, G, T, h1, h2, h3, h4, h5, _⟩ := h
  exact ⟨F, G, T, h1, h2, h3, h4, h5⟩
theorem PairAv.chg {N : Nat} {w w' : World} {t r K : Nat} (h : PairAv N w t r K) (hc : Chg [K] w w') : PairAt N w' t r := by
  obtain ⟨F, G, T, h1, h2, h3, h4, h5, h6, h7⟩ := h
  exact ⟨F, G, T, h1.chg hc fun g hg hf => by simp at hf; subst hf; exact h6 hg, h2.chg hc fun g hg hf => by simp at hf; subst hf; exact h7 hg, h3, h4, h5⟩
theorem PairAt.av {N K : Nat} {w w' : World} {t r : Nat} (h : PairAt N w t r) (hb : Below w.heap.size w w') (hK : w.heap.size ≤ K) : PairAv N w' t r K := by
  obtain ⟨F, G, T, h1, h2, h3, h4, h5⟩ := h
  exact ⟨F, G, T, h1.below hb, h2.below hb, h3, h4, h5, fun hm => by have := h1.lt K hm; omega, fun hm => by have := h2.lt K hm; omega⟩
def HalfAv (N : Nat) (w : World) (t r : Nat) (a k : Int) (zs : List Int) (v : Int) (K : Nat) : Prop := ∃ F G T, TabIn w t F (nxtT T a k zs) ∧ RefIn w r G T ∧ (∀ g ∈ F, N ≤ g) ∧ (∀ g ∈ G, N ≤ g) ∧ (∀ g ∈ F, g ∉ G) ∧ v = outT T a k zs ∧ K ∉ F ∧ K ∉ G
theorem av_tsp (N : Nat) (w0 w : World) (t r K : Nat) (a k : Int) (A : Option Addr) (m c : Nat) (zs : List Int) (h : PairAt N w0 t r) (hb : Below w0.heap.size w0 w) (hN : N ≤ w0.heap.size) (hr : Rds w w.heap.size 1 A m (zs.map (Value.int .i32))) (hm : m ≤ 9223372036854775807) (hA : 0 < m → ∀ g ∈ blk A, g < N ∨ w0.heap.size ≤ g) (hK : w0.heap.size ≤ K ∧ K < w.heap.size) :
    ∃ v : Int, Calls Try.prog 12 #[.pointer (some ⟨t, 0, none⟩), .int .i64 a, .int .i64 k, .slice A m c] w fun e w' => e = .returned (.int .i64 v) ∧ HalfAv N w' t r a k zs v K ∧ Below N w w' ∧ (∀ q, w0.heap.size ≤ q → q < w.heap.size → w'.heap[q]? = w.heap[q]?) := by
  obtain ⟨F, G, T, h1, h2, hF, hG, hd⟩ := h
  have hlt := h1.lt
  have hltG := h2.lt
  have hsz := hb.size
  refine ⟨outT T a k zs, (tsp_any w t F T a k A m c zs (h1.below hb) hr hm fun h0 g hg hf => ?_).mono ?_⟩
  · rcases hA h0 g hg with h | h
    · have := hF g hf; omega
    · have := hlt g hf; omega
  · rintro e w' ⟨rfl, F', hin, hF', hc⟩
    refine ⟨rfl, ⟨F', G, T, hin, (h2.below hb).chg hc fun g hg hf => hd g hf hg, fun g hg => ?_, hG, fun g hg hf => ?_, rfl, fun hm => ?_, fun hm => by have := hltG K hm; omega⟩, hc.below hF (by omega), fun q hq hq2 => hc.block q hq2 fun hf => by have := hlt q hf; omega⟩
    · rcases hF' g hg with h | h
      · exact hF g h
      · omega
    · rcases hF' g hg with h | h
      · exact hd g h hf
      · have := hltG g hf; omega
    · rcases hF' K hm with h | h
      · have := hlt K h; omega
      · omega
theorem av_rsp (N : Nat) (w0 w : World) (t r K : Nat) (a k : Int) (A : Option Addr) (m c : Nat) (zs : List Int) (v : Int) (h : HalfAv N w t r a k zs v K) (h0 : PairAt N w0 t r) (hN : N ≤ w.heap.size) (hr : Rds w w.heap.size 1 A m (zs.map (Value.int .i32))) (hm : m ≤ 9223372036854775807) (hK : K < w.heap.size) :
    Calls Try.prog 21 #[.pointer (some ⟨r, 0, none⟩), .int .i64 a, .int .i64 k, .slice A m c] w fun e w' => e = .returned (.int .i64 v) ∧ PairAv N w' t r K ∧ Below N w w' ∧ (∀ q, w0.heap.size ≤ q → q < w.heap.size → w'.heap[q]? = w.heap[q]?) := by
  obtain ⟨F, G, T, h1, h2, hF, hG, hd, rfl, hKF, hKG⟩ := h
  have hr0 : r < w0.heap.size := by
    obtain ⟨_, G0, _, _, h20, _⟩ := h0
    exact h20.lt r h20.has
  have hlt := h1.lt
  refine (rsp_any w r G T a k A m c zs h2 hr hm).mono ?_
  rintro e w' ⟨rfl, G', hin, hG', hc⟩
  refine ⟨rfl, ⟨F, G', _, h1.chg hc fun g hg hf => by simp at hf; subst hf; exact hd g hg h2.has, hin, hF, fun g hg => ?_, fun g hg hf => ?_, hKF, fun hm => ?_⟩, hc.below (fun g hg => by simp at hg; subst hg; exact hG g h2.has) hN, fun q hq hq2 => hc.block q hq2 fun hf => by simp at hf; omega⟩
  · rcases hG' g hg with h | h
    · exact hG g h
    · omega
  · rcases hG' g hf with h | h
    · exact hd g hg h
    · have := hlt g hg; omega
  · rcases hG' K hm with h | h
    · exact hKG h
    · omega
/-- One sign more on a copy: on both sides the same is answered. -/
theorem tsp_z (w : World) (t : Nat) (F : List Nat) (T : Tb) (v : Int) (hv : Hid (outT T 0 0 [122] = v)) (h : TabIn w t F T) :
    Calls Try.prog 12 #[.pointer (some ⟨t, 0, none⟩), .int .i64 0, .int .i64 0, .slice (some ⟨w.heap.size, 0, none⟩) 1 1] (w.alloc (.cells #[.int .i32 122] 21 (0, 0))) fun e w' => e = .returned (.int .i64 v) ∧ Chg F w w' := by
  refine (tsp_any _ t F T 0 0 (some ⟨w.heap.size, 0, none⟩) 1 1 [122] (h.below ((Below.refl _ _).alloc (Nat.le_refl _) _)) (rds_lit (cur := [.int .i32 122]) (heap_alloc_new _ _) (by simp)) (by omega) fun _ g hg hf => by have := h.lt g hf; simp [blk] at hg; omega).mono ?_
  rintro e w' ⟨rfl, F', _, _, hc⟩
  exact ⟨by rw [hv.out], ((Chg.refl _ _).alloc _).trans hc⟩
theorem rsp_z (w : World) (r : Nat) (G : List Nat) (T : Tb) (v : Int) (hv : Hid (outT T 0 0 [122] = v)) (h : RefIn w r G T) :
    Calls Try.prog 21 #[.pointer (some ⟨r, 0, none⟩), .int .i64 0, .int .i64 0, .slice (some ⟨w.heap.size, 0, none⟩) 1 1] (w.alloc (.cells #[.int .i32 122] 21 (0, 0))) fun e w' => e = .returned (.int .i64 v) ∧ Chg [r] w w' := by
  refine (rsp_any _ r G T 0 0 (some ⟨w.heap.size, 0, none⟩) 1 1 [122] (h.below ((Below.refl _ _).alloc (Nat.le_refl _) _)) (rds_lit (cur := [.int .i32 122]) (heap_alloc_new _ _) (by simp)) (by omega)).mono ?_
  rintro e w' ⟨rfl, G', _, _, hc⟩
  exact ⟨by rw [hv.out], ((Chg.refl _ _).alloc _).trans hc⟩
end Go.Proofs.Ytpfceochplghlaa
