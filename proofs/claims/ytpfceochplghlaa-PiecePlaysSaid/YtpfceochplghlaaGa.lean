/- A table by its sizes and its first text: the contracts of PieceWhole. -/
import Derived.Test.YtpfceochplghlaaFb
import Derived.Test.YtpfceochplghlaaEb
namespace Go.Proofs.Ytpfceochplghlaa
open Go.RowKit

/-- A table of n signs, made of s, with l signs added, whose blocks are no older than N. -/
def WholeAt (N : Nat) (w : World) (t s n l : Nat) : Prop := ∃ F T, TabIn w t F T ∧ T.fst.length = s ∧ plen T.ps = n ∧ T.add.length = l ∧ ∀ g ∈ F, N ≤ g
theorem WholeAt.below {N : Nat} {w w' : World} {t s n l : Nat} (h : WholeAt N w t s n l) (hb : Below w.heap.size w w') : WholeAt N w' t s n l := by
  obtain ⟨F, T, h1, h2⟩ := h
  exact ⟨F, T, h1.below hb, h2⟩
theorem WholeAt.le {N : Nat} {w : World} {t s n l : Nat} (h : WholeAt N w t s n l) : n ≤ 1000 := by
  obtain ⟨F, T, h1, _, rfl, _⟩ := h
  exact h1.ok.len
theorem whole_text (N : Nat) (w : World) (t s n l : Nat) (h : WholeAt N w t s n l) : Calls Try.prog 26 #[.pointer (some ⟨t, 0, none⟩)] w fun e w' => (∃ A c zs, e = .returned (.slice A n c) ∧ Rds w' w'.heap.size 1 A n ((zs : List Int).map (Value.int .i32)) ∧ n ≤ c) ∧ Below w.heap.size w w' := by
  obtain ⟨F, T, h1, _, rfl, _⟩ := h
  refine (text_any w t F T h1).mono ?_
  rintro e w' ⟨v, rfl, hown, hb⟩
  obtain ⟨A, c, rfl, hc, _⟩ := own_form hown
  exact ⟨⟨A, c, _, rfl, Rds.of_own hown, hc⟩, hb⟩
theorem whole_len (N : Nat) (w : World) (t s n l : Nat) (h : WholeAt N w t s n l) : Calls Try.prog 13 #[.pointer (some ⟨t, 0, none⟩)] w fun e w' => e = .returned (.int .i64 n) ∧ w = w' := by
  obtain ⟨F, T, h1, _, h2, _⟩ := h
  exact len_any w t F T n (Lib.hid (by rw [h2])) h1
theorem whole_added (N : Nat) (w : World) (t s n l : Nat) (h : WholeAt N w t s n l) : Calls Try.prog 14 #[.pointer (some ⟨t, 0, none⟩)] w fun e w' => e = .returned (.int .i64 l) ∧ w = w' := by
  obtain ⟨F, T, h1, _, _, h2, _⟩ := h
  exact added_any w t F T l (Lib.hid (by rw [h2])) h1
theorem whole_new (N : Nat) (W : World) (A : Option Addr) (m c : Nat) (zs : List Int) (h1 : Hid (mayB zs = true)) (h2 : m ≤ 1000) (hr : Rds W W.heap.size 1 A m (zs.map (Value.int .i32))) (hN : N ≤ W.heap.size) :
    Calls Try.prog 10 #[.slice A m c] W fun e w' => ∃ t, e = .returned (.tuple #[.pointer (some ⟨t, 0, none⟩), .int .i64 0]) ∧ WholeAt N w' t m m 0 ∧ Below W.heap.size W w' := by
  refine (new_ok W A m c zs h1 h2 hr).mono ?_
  rintro e w' ⟨t, F, rfl, hin, hF, hb⟩
  exact ⟨t, rfl, ⟨F, _, hin, hr.int_len, by rw [newTb_len, hr.int_len], rfl, fun g hg => Nat.le_trans hN (hF g hg)⟩, hb⟩
/-- The pieces lie in their texts. -/
def LieIn (s l : Nat) (L : List Pc) : Prop := ∀ p ∈ L, 0 < p.ln ∧ p.fr + p.ln ≤ if p.add then l else s
theorem whole_pieces (N : Nat) (w : World) (t s n l : Nat) (h : WholeAt N w t s n l) : Calls Try.prog 27 #[.pointer (some ⟨t, 0, none⟩)] w fun e w' => (∃ A k c L, e = .returned (.slice A k c) ∧ w'.ownsRow w.heap.size 53 3 (.slice A k c) k (pcs L) ∧ k ≤ 1000 ∧ L.length = k ∧ plen L = n ∧ LieIn s l L) ∧ Below w.heap.size w w' := by
  obtain ⟨F, T, h1, rfl, rfl, rfl, _⟩ := h
  have hok := h1.ok
  have hn := count_le hok.pos
  have hl := hok.len
  refine (pieces_any w t F T h1).mono ?_
  rintro e w' ⟨v, rfl, hown, hb⟩
  obtain ⟨A, c, rfl, _, _⟩ := own_form hown
  refine ⟨⟨A, _, c, T.ps, rfl, hown, by omega, rfl, rfl, fun p hp => ⟨hok.pos p hp, ?_⟩⟩, hb⟩
  have h2 := hok.fits p hp
  unfold Tb.src at h2
  split at h2 <;> rename_i h3 <;> simp [h3] <;> exact h2
theorem may_take {zs : List Int} (k : Nat) (h : mayB zs = true) : Hid (mayB (zs.take k) = true) := by
  show mayB _ = true
  simp only [mayB, List.all_eq_true] at h ⊢
  exact fun x hx => h x (List.mem_of_mem_take hx)
/-- A splice that fits. -/
def WholePost (N : Nat) (w w1 : World) (t s n l : Nat) (e : Ending) (w' : World) : Prop :=
  e = .returned (.int .i64 0) ∧ (∀ q, w.heap.size ≤ q → q < w1.heap.size → w'.heap[q]? = w1.heap[q]?) ∧ Below N w1 w' ∧ WholeAt N w' t s n l
theorem whole_step (N : Nat) (w w1 : World) (t s n l a k m c : Nat) (A : Option Addr) (zs : List Int) (h : WholeAt N w t s n l) (hb : Below w.heap.size w w1) (hN : N ≤ w.heap.size) (ha : a + k ≤ n) (hm : m ≤ 1000 - (n - k)) (hl : l + m ≤ 20000) (hz : Hid (mayB zs = true))
    (hr : Rds w1 w1.heap.size 1 A m (zs.map (Value.int .i32))) (hA : ∀ g ∈ blk A, w.heap.size ≤ g) :
    Calls Try.prog 12 #[.pointer (some ⟨t, 0, none⟩), .int .i64 a, .int .i64 k, .slice A m c] w1 (WholePost N w w1 t s (n - k + m) (l + m)) := by
  obtain ⟨F, T, hin, rfl, rfl, rfl, hF⟩ := h
  have hlt := hin.lt
  have hin1 := hin.below hb
  have hsz := hb.size
  have hle := hin.ok.len
  have hzl := hr.int_len
  by_cases h0 : k = 0 ∧ m = 0
  · obtain ⟨rfl, rfl⟩ := h0
    refine (splice_zero w1 t F T a A c hin1 (by omega)).mono ?_
    rintro e w' ⟨rfl, rfl⟩
    exact ⟨rfl, fun _ _ _ => rfl, Below.refl _ _, F, T, hin1, rfl, rfl, rfl, hF⟩
  · refine (splice_all w1 t F T a k A m c zs hin1 ha hz (by simp only [roomB, decide_eq_true_eq]; omega) h0 hr fun _ g hg hf => by have := hA g hg; have := hlt g hf; omega).mono ?_
    rintro e w' ⟨rfl, F', hin', hF', hcg⟩
    refine ⟨rfl, fun q hq hq2 => hcg.block q hq2 fun hf => by have := hlt q hf; omega, hcg.below hF (by omega), F', _, hin', rfl, by rw [spl_len ha, hzl], by show (T.add ++ zs).length = _; rw [List.length_append, hzl], fun g hg => ?_⟩
    rcases hF' g hg with h | h
    · exact hF g h
    · omega

/-- The box of a change, laid and not yet written. -/
def zbox : Obj := .cells #[.int .i64 0, .slice none 0 0, .slice none 0 0] 40 (0, 0)
theorem box_facts {w : World} {q : Nat} (h : w.heap[q]? = some zbox) : q < w.heap.size ∧ w.frozen? ⟨q, 0, none⟩ = false ∧ w.frozen? ⟨q, 1, none⟩ = false ∧ w.frozen? ⟨q, 2, none⟩ = false ∧ w.cell? ⟨q, 0, none⟩ = some (.int .i64 0) ∧ w.cell? ⟨q, 1, none⟩ = some (.slice none 0 0) ∧ w.cell? ⟨q, 2, none⟩ = some (.slice none 0 0) :=
  ⟨(Array.getElem?_eq_some_iff.1 h).1, frozen_of_row w q 0 _ _ h, frozen_of_row w q 1 _ _ h, frozen_of_row w q 2 _ _ h, cell_of_row w q 0 _ _ _ h, cell_of_row w q 1 _ _ _ h, cell_of_row w q 2 _ _ _ h⟩
theorem keep_box {w w' : World} {q : Nat} (hb : Below w.heap.size w w') (h : w.heap[q]? = some zbox) : w'.heap[q]? = some zbox := (hb.block q (Array.getElem?_eq_some_iff.1 h).1).trans h
/-- The change lies at q. -/
def ChAt (N : Nat) (w : World) (q a k m : Nat) (A6 : Option Addr) (c6 : Nat) (B6 : Option Addr) (d6 : Nat) (ys : List Int) : Prop :=
  N ≤ q ∧ w.heap[q]? = some (.cells #[.int .i64 a, .slice A6 k c6, .slice B6 m d6] 40 (0, 0)) ∧ Rds w w.heap.size 1 B6 m (ys.map (Value.int .i32)) ∧ (∀ g ∈ blk B6, N ≤ g)
theorem ch_set {N K : Nat} {w0 w : World} {q a k m c6 d6 : Nat} {A6 B6 : Option Addr} {ys : List Int} (hN : N ≤ q) (h : w.heap[q]? = some zbox) (hr : Rds w w.heap.size 1 B6 m (ys.map (Value.int .i32))) (hg : ∀ g ∈ blk B6, K ≤ g) (hq : q < K) (hb : Below N w0 w) (h0 : N ≤ w0.heap.size) :
    ChAt N (((w.setCell ⟨q, 0, none⟩ (.int .i64 a)).setCell ⟨q, 1, none⟩ (.slice A6 k c6)).setCell ⟨q, 2, none⟩ (.slice B6 m d6)) q a k m A6 c6 B6 d6 ys ∧ Below N w0 (((w.setCell ⟨q, 0, none⟩ (.int .i64 a)).setCell ⟨q, 1, none⟩ (.slice A6 k c6)).setCell ⟨q, 2, none⟩ (.slice B6 m d6)) := by
  have hk3 := heap_setCell_same w q 0 _ _ (.int .i64 a) h
  have hk4 := heap_setCell_same _ q 1 _ _ (.slice A6 k c6) hk3
  have hk5 := heap_setCell_same _ q 2 _ _ (.slice B6 m d6) hk4
  have hcg : Chg [q] w (((w.setCell ⟨q, 0, none⟩ (.int .i64 a)).setCell ⟨q, 1, none⟩ (.slice A6 k c6)).setCell ⟨q, 2, none⟩ (.slice B6 m d6)) := (((Chg.refl _ _).setCell (.inl (by simp)) _).setCell (.inl (by simp)) _).setCell (.inl (by simp)) _
  refine ⟨⟨hN, hk5, (hr.chg (Nat.le_refl _) hcg fun g hg' => by have := hg g hg'; simp; omega).more hcg.size, fun g hg' => by have := hg g hg'; omega⟩, hb.trans (hcg.below (fun x hx => by simp at hx; omega) (Nat.le_trans h0 hb.size))⟩
theorem ch_new {N K : Nat} {w0 w : World} {a k m c6 d6 : Nat} {A6 B6 : Option Addr} {ys : List Int} (hr : Rds w w.heap.size 1 B6 m (ys.map (Value.int .i32))) (hg : ∀ g ∈ blk B6, K ≤ g) (hK : N ≤ K) (hb : Below N w0 w) (h0 : N ≤ w0.heap.size) :
    ChAt N (w.alloc (.cells #[.int .i64 a, .slice A6 k c6, .slice B6 m d6] 40 (0, 0))) w.heap.size a k m A6 c6 B6 d6 ys ∧ Below N w0 (w.alloc (.cells #[.int .i64 a, .slice A6 k c6, .slice B6 m d6] 40 (0, 0))) :=
  ⟨⟨Nat.le_trans h0 hb.size, heap_alloc_new _ _, (hr.alloc (Nat.le_refl _) _).more (by simp), fun g hg' => Nat.le_trans hK (hg g hg')⟩, hb.alloc (Nat.le_trans h0 hb.size) _⟩
end Go.Proofs.Ytpfceochplghlaa
