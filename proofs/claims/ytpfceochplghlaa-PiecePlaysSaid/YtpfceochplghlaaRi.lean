/- A table and the reference's, side by side: what a splice answers and leaves on both. -/
import Derived.Test.YtpfceochplghlaaRf
import Derived.Test.YtpfceochplghlaaRh
import Derived.Test.YtpfceochplghlaaRc
import Derived.Test.YtpfceochplghlaaGa
namespace Go.Proofs.Ytpfceochplghlaa
open Go.RowKit

/-- What a splice answers. -/
def outT (T : Tb) (a k : Int) (zs : List Int) : Int := if thereB (plen T.ps) a k then (if mayB zs then (if roomB (plen T.ps) k.toNat T.add.length zs.length then 0 else 3) else 1) else 2
/-- What it leaves. -/
def nxtT (T : Tb) (a k : Int) (zs : List Int) : Tb := if outT T a k zs = 0 ∧ ¬ (k = 0 ∧ zs.length = 0) then splT T a.toNat k.toNat zs else T
def TspPost (w : World) (t : Nat) (F : List Nat) (v : Int) (T : Tb) (e : Ending) (w' : World) : Prop :=
  e = .returned (.int .i64 v) ∧ ∃ F', TabIn w' t F' T ∧ (∀ g ∈ F', g ∈ F ∨ w.heap.size ≤ g) ∧ Chg F w w'
def RspPost (w : World) (r : Nat) (G : List Nat) (v : Int) (T : Tb) (e : Ending) (w' : World) : Prop :=
  e = .returned (.int .i64 v) ∧ ∃ G', RefIn w' r G' T ∧ (∀ g ∈ G', g ∈ G ∨ w.heap.size ≤ g) ∧ Chg [r] w w'
theorem out_cases (T : Tb) (a k : Int) (zs : List Int) :
    (thereB (plen T.ps) a k = false ∧ outT T a k zs = 2 ∧ nxtT T a k zs = T) ∨
    ∃ (a' k' : Nat), a = a' ∧ k = k' ∧ a' + k' ≤ plen T.ps ∧ thereB (plen T.ps) a' k' = true ∧
      ((mayB zs = false ∧ outT T a k zs = 1 ∧ nxtT T a k zs = T) ∨ (mayB zs = true ∧
        ((roomB (plen T.ps) k' T.add.length zs.length = false ∧ outT T a k zs = 3 ∧ nxtT T a k zs = T) ∨ (roomB (plen T.ps) k' T.add.length zs.length = true ∧ outT T a k zs = 0 ∧
          ((k' = 0 ∧ zs.length = 0 ∧ nxtT T a k zs = T) ∨ (¬ (k' = 0 ∧ zs.length = 0) ∧ nxtT T a k zs = splT T a' k' zs)))))) := by
  cases ht : thereB (plen T.ps) a k with
  | false =>
    have ho : outT T a k zs = 2 := by simp [outT, ht]
    exact .inl ⟨rfl, ho, by simp [nxtT, ho]⟩
  | true =>
    have ht' := ht
    simp only [thereB, decide_eq_true_eq] at ht'
    obtain ⟨a', rfl⟩ : ∃ a' : Nat, a = a' := ⟨a.toNat, by omega⟩
    obtain ⟨k', rfl⟩ : ∃ k' : Nat, k = k' := ⟨k.toNat, by omega⟩
    refine .inr ⟨a', k', rfl, rfl, by omega, ht, ?_⟩
    cases hm : mayB zs with
    | false =>
      have ho : outT T a' k' zs = 1 := by simp [outT, ht, hm]
      exact .inl ⟨rfl, ho, by simp [nxtT, ho]⟩
    | true =>
      refine .inr ⟨rfl, ?_⟩
      cases hr : roomB (plen T.ps) k' T.add.length zs.length with
      | false =>
        have ho : outT T a' k' zs = 3 := by simp [outT, ht, hm, hr]
        exact .inl ⟨rfl, ho, by simp [nxtT, ho]⟩
      | true =>
        have ho : outT T a' k' zs = 0 := by simp [outT, ht, hm, hr]
        refine .inr ⟨rfl, ho, ?_⟩
        by_cases h0 : k' = 0 ∧ zs.length = 0
        · left
          refine ⟨h0.1, h0.2, ?_⟩
          unfold nxtT
          rw [if_neg fun h => h.2 ⟨by omega, h0.2⟩]
        · right
          refine ⟨h0, ?_⟩
          unfold nxtT
          rw [if_pos ⟨ho, fun h => h0 ⟨by omega, h.2⟩⟩]
          rfl
theorem tsp_any (w : World) (t : Nat) (F : List Nat) (T : Tb) (a k : Int) (A : Option Addr) (m c : Nat) (zs : List Int) (h : TabIn w t F T) (hr : Rds w w.heap.size 1 A m (zs.map (Value.int .i32))) (hm : m ≤ 9223372036854775807) (hA : 0 < m → ∀ g ∈ blk A, g ∉ F) :
    Calls Try.prog 12 #[.pointer (some ⟨t, 0, none⟩), .int .i64 a, .int .i64 k, .slice A m c] w (TspPost w t F (outT T a k zs) (nxtT T a k zs)) := by
  have hz := hr.int_len
  have hsame : ∀ v, TspPost w t F v T (.returned (.int .i64 v)) w := fun v => ⟨rfl, F, h, fun g hg => .inl hg, Chg.refl _ _⟩
  rcases out_cases T a k zs with ⟨h1, h2, h3⟩ | ⟨a', k', rfl, rfl, hak, h1, ⟨h2, h3, h4⟩ | ⟨h2, ⟨h3, h4, h5⟩ | ⟨h3, h4, ⟨h5, h6, h7⟩ | ⟨h5, h6⟩⟩⟩⟩
  · rw [h2, h3]
    refine (splice_arg w t F T a k A m c h (Lib.hid h1)).mono ?_
    rintro e w' ⟨rfl, rfl⟩
    exact hsame 2
  · rw [h3, h4]
    refine (splice_form w t F T a' k' A m c _ zs h (Lib.hid h1) (Lib.hid h2) hr hm).mono ?_
    rintro e w' ⟨rfl, rfl⟩
    exact hsame 1
  · rw [h4, h5]
    rw [hz] at h3
    refine (splice_full w t F T a' k' A m c _ zs h (Lib.hid h1) (Lib.hid h2) h3 (by omega) hr hm).mono ?_
    rintro e w' ⟨rfl, rfl⟩
    exact hsame 3
  · subst h5
    rw [hz] at h6
    subst h6
    rw [h4, h7]
    refine (splice_zero w t F T a' A c h (by omega)).mono ?_
    rintro e w' ⟨rfl, rfl⟩
    exact hsame 0
  · rw [h4, h6]
    rw [hz] at h3 h5
    refine (splice_all w t F T a' k' A m c zs h hak (Lib.hid h2) h3 h5 hr hA).mono ?_
    rintro e w' ⟨rfl, q⟩
    exact ⟨rfl, q⟩
theorem rsp_any (w : World) (r : Nat) (G : List Nat) (T : Tb) (a k : Int) (A : Option Addr) (m c : Nat) (zs : List Int) (h : RefIn w r G T) (hr : Rds w w.heap.size 1 A m (zs.map (Value.int .i32))) (hm : m ≤ 9223372036854775807) :
    Calls Try.prog 21 #[.pointer (some ⟨r, 0, none⟩), .int .i64 a, .int .i64 k, .slice A m c] w (RspPost w r G (outT T a k zs) (nxtT T a k zs)) := by
  have hz := hr.int_len
  have hsame : ∀ v, RspPost w r G v T (.returned (.int .i64 v)) w := fun v => ⟨rfl, G, h, fun g hg => .inl hg, Chg.refl _ _⟩
  rcases out_cases T a k zs with ⟨h1, h2, h3⟩ | ⟨a', k', rfl, rfl, hak, h1, ⟨h2, h3, h4⟩ | ⟨h2, ⟨h3, h4, h5⟩ | ⟨h3, h4, ⟨h5, h6, h7⟩ | ⟨h5, h6⟩⟩⟩⟩
  · rw [h2, h3]
    refine (rsplice_arg w r G T a k A m c h (Lib.hid h1)).mono ?_
    rintro e w' ⟨rfl, rfl⟩
    exact hsame 2
  · rw [h3, h4]
    refine (rsplice_form w r G T a' k' A m c _ zs h (Lib.hid h1) (Lib.hid h2) hr hm).mono ?_
    rintro e w' ⟨rfl, rfl⟩
    exact hsame 1
  · rw [h4, h5]
    rw [hz] at h3
    refine (rsplice_full w r G T a' k' A m c _ zs h (Lib.hid h1) (Lib.hid h2) h3 (by omega) hr hm).mono ?_
    rintro e w' ⟨rfl, rfl⟩
    exact hsame 3
  · subst h5
    rw [hz] at h6
    subst h6
    rw [h4, h7]
    refine (rsplice_zero w r G T a' A c h (by omega)).mono ?_
    rintro e w' ⟨rfl, rfl⟩
    exact hsame 0
  · rw [h4, h6]
    rw [hz] at h3 h5
    refine (rsplice_do w r G T a' k' A m c zs h hak (Lib.hid h2) h3 h5 hr).mono ?_
    rintro e w' ⟨rfl, q⟩
    exact ⟨rfl, q⟩

/-- A table and the reference's, alike and apart, both no older than N. -/
def PairAt (N : Nat) (w : World) (t r : Nat) : Prop := ∃ F G T, TabIn w t F T ∧ RefIn w r G T ∧ (∀ g ∈ F, N ≤ g) ∧ (∀ g ∈ G, N ≤ g) ∧ ∀ g ∈ F, g ∉ G
theorem PairAt.below {N : Nat} {w w' : World} {t r : Nat} (h : PairAt N w t r) (hb : Below w.heap.size w w') : PairAt N w' t r := by
  obtain ⟨F, G, T, h1, h2, h3⟩ := h
  exact ⟨F, G, T, h1.below hb, h2.below hb, h3⟩
theorem RefIn.has {w : World} {r : Nat} {G : List Nat} {T : Tb} (h : RefIn w r G T) : r ∈ G := by
  obtain ⟨A0, n0, c0, A1, n1, c1, A2, n2, c2, h, rfl, _⟩ := h
  simp
theorem pair_rtext (N : Nat) (w : World) (t r : Nat) (h : PairAt N w t r) : Calls Try.prog 20 #[.pointer (some ⟨r, 0, none⟩)] w fun e w' => (∃ A n c zs, e = .returned (.slice A n c) ∧ Rds w' w'.heap.size 1 A n ((zs : List Int).map (Value.int .i32)) ∧ n ≤ c ∧ n ≤ 1000) ∧ Below w.heap.size w w' := by
  obtain ⟨F, G, T, h1, h2, _⟩ := h
  have hl := h1.ok.len
  refine (rtext_any w r G T h2).mono ?_
  rintro e w' ⟨v, rfl, hown, hb⟩
  obtain ⟨A, c, rfl, hc, _⟩ := own_form hown
  exact ⟨⟨A, _, c, _, rfl, Rds.of_own hown, hc, hl⟩, hb⟩
theorem pair_same (N : Nat) (w : World) (t r : Nat) (h : PairAt N w t r) : Calls Try.prog 22 #[.pointer (some ⟨t, 0, none⟩), .pointer (some ⟨r, 0, none⟩)] w fun e w' => e = .returned (.bool true) ∧ Below w.heap.size w w' := by
  obtain ⟨F, G, T, h1, h2, _⟩ := h
  exact same_both w t F T r G h1 h2
/-- Half-way: the table has been spliced, the reference's has not. -/
def HalfAt (N : Nat) (w : World) (t r : Nat) (a k : Int) (zs : List Int) (v : Int) : Prop := ∃ F G T, TabIn w t F (nxtT T a k zs) ∧ RefIn w r G T ∧ (∀ g ∈ F, N ≤ g) ∧ (∀ g ∈ G, N ≤ g) ∧ (∀ g ∈ F, g ∉ G) ∧ v = outT T a k zs
/-- The table's splice: signs and other blocks stay that are not the table's. 'w0': an older world, in which both tables lay. -/
theorem pair_tsp (N : Nat) (w0 w : World) (t r : Nat) (a k : Int) (A : Option Addr) (m c : Nat) (zs : List Int) (h : PairAt N w0 t r) (hb : Below w0.heap.size w0 w) (hN : N ≤ w0.heap.size) (hr : Rds w w.heap.size 1 A m (zs.map (Value.int .i32))) (hm : m ≤ 9223372036854775807) (hA : 0 < m → ∀ g ∈ blk A, g < N ∨ w0.heap.size ≤ g) :
    ∃ v : Int, Calls Try.prog 12 #[.pointer (some ⟨t, 0, none⟩), .int .i64 a, .int .i64 k, .slice A m c] w fun e w' => e = .returned (.int .i64 v) ∧ HalfAt N w' t r a k zs v ∧ Below N w w' ∧ (∀ q, w0.heap.size ≤ q → q < w.heap.size → w'.heap[q]? = w.heap[q]?) := by
  obtain ⟨F, G, T, h1, h2, hF, hG, hd⟩ := h
  have hlt := h1.lt
  have hltG := h2.lt
  have hsz := hb.size
  refine ⟨outT T a k zs, (tsp_any w t F T a k A m c zs (h1.below hb) hr hm fun h0 g hg hf => ?_).mono ?_⟩
  · rcases hA h0 g hg with h | h
    · have := hF g hf; omega
    · have := hlt g hf; omega
  · rintro e w' ⟨rfl, F', hin, hF', hc⟩
    refine ⟨rfl, ⟨F', G, T, hin, (h2.below hb).chg hc fun g hg hf => hd g hf hg, fun g hg => ?_, hG, fun g hg hf => ?_, rfl⟩, hc.below hF (by omega), fun q hq hq2 => hc.block q hq2 fun hf => by have := hlt q hf; omega⟩
    · rcases hF' g hg with h | h
      · exact hF g h
      · omega
    · rcases hF' g hg with h | h
      · exact hd g h hf
      · have := hltG g hf; omega
theorem pair_rsp (N : Nat) (w0 w : World) (t r : Nat) (a k : Int) (A : Option Addr) (m c : Nat) (zs : List Int) (v : Int) (h : HalfAt N w t r a k zs v) (h0 : PairAt N w0 t r) (hN : N ≤ w.heap.size) (hr : Rds w w.heap.size 1 A m (zs.map (Value.int .i32))) (hm : m ≤ 9223372036854775807) :
    Calls Try.prog 21 #[.pointer (some ⟨r, 0, none⟩), .int .i64 a, .int .i64 k, .slice A m c] w fun e w' => e = .returned (.int .i64 v) ∧ PairAt N w' t r ∧ Below N w w' ∧ (∀ q, w0.heap.size ≤ q → q < w.heap.size → w'.heap[q]? = w.heap[q]?) := by
  obtain ⟨F, G, T, h1, h2, hF, hG, hd, rfl⟩ := h
  have hr0 : r < w0.heap.size := by
    obtain ⟨_, G0, _, _, h20, _⟩ := h0
    exact h20.lt r h20.has
  have hlt := h1.lt
  refine (rsp_any w r G T a k A m c zs h2 hr hm).mono ?_
  rintro e w' ⟨rfl, G', hin, hG', hc⟩
  refine ⟨rfl, ⟨F, G', _, h1.chg hc fun g hg hf => by simp at hf; subst hf; exact hd g hg h2.has, hin, hF, fun g hg => ?_, fun g hg hf => ?_⟩, hc.below (fun g hg => by simp at hg; subst hg; exact hG g h2.has) hN, fun q hq hq2 => hc.block q hq2 fun hf => by simp at hf; omega⟩
  · rcases hG' g hg with h | h
    · exact hG g h
    · omega
  · rcases hG' g hf with h | h
    · exact hd g hg h
    · have := hlt g hg; omega
end Go.Proofs.Ytpfceochplghlaa
