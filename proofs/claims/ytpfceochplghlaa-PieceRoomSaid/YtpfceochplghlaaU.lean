/- Tables by their sizes alone: what PieceRoom asks. -/
import Derived.Test.YtpfceochplghlaaT
namespace Go.Proofs.Ytpfceochplghlaa
open Go.RowKit

/-- A table of l signs, n of them added so far, whose blocks are no older than N. -/
def RoomAt (N : Nat) (w : World) (t l n : Nat) : Prop := ∃ F T, TabIn w t F T ∧ plen T.ps = l ∧ T.add.length = n ∧ (∀ g ∈ F, N ≤ g)
theorem RoomAt.below {N : Nat} {w w' : World} {t l n : Nat} (h : RoomAt N w t l n) (hb : Below w.heap.size w w') : RoomAt N w' t l n := by
  obtain ⟨F, T, h1, h2⟩ := h
  exact ⟨F, T, h1.below hb, h2⟩
theorem room_len (N : Nat) (w : World) (t l n : Nat) (h : RoomAt N w t l n) : Calls Try.prog 13 #[.pointer (some ⟨t, 0, none⟩)] w fun e w' => e = .returned (.int .i64 l) ∧ w = w' := by
  obtain ⟨F, T, h1, h2, _⟩ := h
  exact len_any w t F T l (Lib.hid (by rw [h2])) h1
theorem room_added (N : Nat) (w : World) (t l n : Nat) (h : RoomAt N w t l n) : Calls Try.prog 14 #[.pointer (some ⟨t, 0, none⟩)] w fun e w' => e = .returned (.int .i64 n) ∧ w = w' := by
  obtain ⟨F, T, h1, _, h2, _⟩ := h
  exact added_any w t F T n (Lib.hid (by rw [h2])) h1
def RoomPost (N : Nat) (w : World) (t l n : Nat) (e : Ending) (w' : World) : Prop := e = .returned (.int .i64 0) ∧ RoomAt N w' t l n ∧ Below N w w'
/-- A splice of signs that lie in an older block. -/
theorem room_old (N : Nat) (w : World) (t l n a k m c : Nat) (A : Option Addr) (zs : List Int) (h : RoomAt N w t l n) (ha : a + k ≤ l) (h1 : Hid (mayB zs = true)) (hr : Rds w N 1 A m (zs.map (Value.int .i32))) (hA : ∀ g ∈ blk A, g < N) (hN : N ≤ w.heap.size) (h0 : ¬ (k = 0 ∧ m = 0)) (h2 : l - k + m ≤ 1000 ∧ n + m ≤ 20000) :
    Calls Try.prog 12 #[.pointer (some ⟨t, 0, none⟩), .int .i64 a, .int .i64 k, .slice A m c] w (RoomPost N w t (l - k + m) (n + m)) := by
  obtain ⟨F, T, hin, rfl, rfl, hF⟩ := h
  refine (splice_do w t F T a k A m c zs hin ha h1 (by simp only [roomB, decide_eq_true_eq]; exact h2) h0 (hr.more hN) fun g hg hf => by have := hA g hg; have := hF g hf; omega).mono ?_
  rintro e w' ⟨rfl, F', hin', hF', hc⟩
  refine ⟨rfl, ⟨F', _, hin', by rw [spl_len ha, hr.int_len], by show (T.add ++ zs).length = _; rw [List.length_append, hr.int_len], fun g hg => ?_⟩, hc.below hF hN⟩
  rcases hF' g hg with h | h
  · exact hF g h
  · omega
/-- A splice of signs that lie in a new block. -/
theorem room_new (N : Nat) (w w2 : World) (t l n a k m c q : Nat) (zs : List Int) (h : RoomAt N w t l n) (hb : Below w.heap.size w w2) (hq : w.heap.size ≤ q) (ha : a + k ≤ l) (h1 : Hid (mayB zs = true)) (hr : Rds w2 w2.heap.size 1 (some ⟨q, 0, none⟩) m (zs.map (Value.int .i32))) (hN : N ≤ w.heap.size) (h0 : ¬ (k = 0 ∧ m = 0)) (h2 : l - k + m ≤ 1000 ∧ n + m ≤ 20000) :
    Calls Try.prog 12 #[.pointer (some ⟨t, 0, none⟩), .int .i64 a, .int .i64 k, .slice (some ⟨q, 0, none⟩) m c] w2 (RoomPost N w2 t (l - k + m) (n + m)) := by
  obtain ⟨F, T, hin, rfl, rfl, hF⟩ := h
  have hs := hb.size
  refine (splice_do w2 t F T a k _ m c zs (hin.below hb) ha h1 (by simp only [roomB, decide_eq_true_eq]; exact h2) h0 hr fun g hg hf => by have := hin.lt g hf; simp [blk] at hg; omega).mono ?_
  rintro e w' ⟨rfl, F', hin', hF', hc⟩
  refine ⟨rfl, ⟨F', _, hin', by rw [spl_len ha, hr.int_len], by show (T.add ++ zs).length = _; rw [List.length_append, hr.int_len], fun g hg => ?_⟩, hc.below hF (by omega)⟩
  rcases hF' g hg with h | h
  · exact hF g h
  · omega
theorem room_full (N : Nat) (w : World) (t l n a k m c B : Nat) (A : Option Addr) (zs : List Int) (h : RoomAt N w t l n) (ha : a + k ≤ l) (h1 : Hid (mayB zs = true)) (hr : Rds w B 1 A m (zs.map (Value.int .i32))) (hm : m ≤ 20000) (h2 : ¬ (l - k + m ≤ 1000 ∧ n + m ≤ 20000)) :
    Calls Try.prog 12 #[.pointer (some ⟨t, 0, none⟩), .int .i64 a, .int .i64 k, .slice A m c] w fun e w' => e = .returned (.int .i64 3) ∧ w = w' := by
  obtain ⟨F, T, hin, rfl, rfl, hF⟩ := h
  exact splice_full w t F T a k A m c B zs hin (Lib.hid (by simp only [thereB, decide_eq_true_eq]; omega)) h1 (by simp only [roomB, decide_eq_false_iff_not]; exact h2) (by omega) hr (by omega)
end Go.Proofs.Ytpfceochplghlaa
