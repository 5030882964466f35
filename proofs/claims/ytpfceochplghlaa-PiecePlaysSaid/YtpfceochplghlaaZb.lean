/- Splices of a word that is typed: contracts at the numbers that the walk meets. -/
import Derived.Test.YtpfceochplghlaaZa
namespace Go.Proofs.Ytpfceochplghlaa
open Go.RowKit

theorem cut_300 (A : Option Addr) (n c : Nat) (hc : n ≤ c) (w : World) : Calls Try.prog 17 #[.slice A n c, .int .i64 300] w fun e w' => e = .returned (.slice A (min n 300) c) ∧ w = w' := cut_any A n c 300 hc w
theorem cut_100 (A : Option Addr) (n c : Nat) (hc : n ≤ c) (w : World) : Calls Try.prog 17 #[.slice A n c, .int .i64 100] w fun e w' => e = .returned (.slice A (min n 100) c) ∧ w = w' := cut_any A n c 100 hc w
theorem cut_60 (A : Option Addr) (n c : Nat) (hc : n ≤ c) (w : World) : Calls Try.prog 17 #[.slice A n c, .int .i64 60] w fun e w' => e = .returned (.slice A (min n 60) c) ∧ w = w' := cut_any A n c 60 hc w
theorem cut_50 (A : Option Addr) (n c : Nat) (hc : n ≤ c) (w : World) : Calls Try.prog 17 #[.slice A n c, .int .i64 50] w fun e w' => e = .returned (.slice A (min n 50) c) ∧ w = w' := cut_any A n c 50 hc w
theorem index_succ (k : Int) (n : Nat) (hn2 : n ≤ 1000000) (w : World) :
    Calls Try.prog 11 #[.int .i64 k, .int .i64 ((n : Int) + 1)] w fun e w' => e = .returned (.int .i64 (idx k (n + 1))) ∧ w = w' := index_any k (n + 1) (by omega) (by omega) w
theorem Rds.front_ints {w : World} {B n m : Nat} {A : Option Addr} {zs : List Int} (h : Rds w B 1 A n (zs.map (Value.int .i32))) (hm : m ≤ n) : Rds w B 1 A m ((zs.take m).map (Value.int .i32)) := by
  have h1 := h.front hm
  rwa [Nat.mul_one, ← List.map_take] at h1

/-- A table of the text s with u typed at a, whose blocks are no older than N. -/
def TypAt (N : Nat) (w : World) (t : Nat) (s : List Int) (a : Nat) (u : List Int) : Prop := ∃ F, TabIn w t F (typT s a u) ∧ ∀ g ∈ F, N ≤ g
theorem TypAt.below {N : Nat} {w w' : World} {t a : Nat} {s u : List Int} (h : TypAt N w t s a u) (hb : Below w.heap.size w w') : TypAt N w' t s a u := by
  obtain ⟨F, h1, h2⟩ := h
  exact ⟨F, h1.below hb, h2⟩
/-- One sign of a row. -/
theorem one_at {w : World} {base n c i : Nat} {A : Option Addr} {xs : List Int} (h : w.ownsRow base 21 1 (.slice A n c) n (xs.map (Value.int .i32))) (hi : i < n) :
    ∃ A2, (∀ W, (Instr.slice 23 (.slice A n c) (some (.int .i64 (i : Int))) (some (.int .i64 ((i : Int) + 1))) none).run Try.prog W = .ok (.slice A2 1 (c - i)) W) ∧ Rds w w.heap.size 1 A2 1 ([xs.getD i 0].map (Value.int .i32)) := by
  have hc := (own_cap h).2.1
  have hx : xs.length = n := by have h1 := h.1; simpa using h1
  obtain ⟨A2, hs, hr⟩ := slice_mid A n c i (i + 1) (by omega) (by omega) hc
  have e : i + 1 - i = 1 := by omega
  refine ⟨A2, fun W => ?_, ?_⟩
  · have h1 := hs W
    rw [e] at h1
    exact h1
  · have h1 := hr w w.heap.size _ (Rds.of_own h)
    rw [e, ← List.map_drop, ← List.map_take] at h1
    have e2 : (xs.drop i).take 1 = [xs.getD i 0] := by
      rw [List.drop_eq_getElem_cons (show i < xs.length by omega), List.take_succ_cons, List.take_zero]
      simp [List.getD, show i < xs.length by omega]
    rw [e2] at h1
    exact h1
theorem typed_step (N : Nat) (w : World) (t a i c : Nat) (A : Option Addr) (s u : List Int) (x : Int) (h : TypAt N w t s a u) (hN : N ≤ w.heap.size) (hs : s.length ≤ 300) (ha : a ≤ s.length) (hi : i = u.length) (hi2 : i ≤ 100) (hx : sgB x = true)
    (hr : Rds w N 1 A 1 ([x].map (Value.int .i32))) (hA : ∀ g ∈ blk A, g < N) :
    Calls Try.prog 12 #[.pointer (some ⟨t, 0, none⟩), .int .i64 ((a : Int) + (i : Int)), .int .i64 0, .slice A 1 c] w fun e w' => e = .returned (.int .i64 0) ∧ TypAt N w' t s a (u ++ [x]) ∧ Below N w w' := by
  obtain ⟨F, hin, hF⟩ := h
  subst hi
  have hl := typ_len s a u ha
  have had : (typT s a u).add.length = u.length := by rw [typ_add]
  have hc := splice_do w t F (typT s a u) (a + u.length) 0 A 1 c [x] hin (by omega) (Lib.hid (by simp [mayB, hx])) (by simp only [roomB, decide_eq_true_eq, hl, had]; omega) (by omega) (hr.more hN) fun g hg hf => by have := hA g hg; have := hF g hf; omega
  rw [typ_step s a u x ha] at hc
  refine hc.mono ?_
  rintro e w' ⟨rfl, F', hin', hF', hcg⟩
  refine ⟨rfl, ⟨F', hin', fun g hg => ?_⟩, hcg.below hF hN⟩
  rcases hF' g hg with h | h
  · exact hF g h
  · omega
/-- A table that has the old text, in two pieces at most. -/
def BackAt (w : World) (t : Nat) (s : List Int) : Prop := ∃ F T, TabIn w t F T ∧ T.text = s ∧ T.ps.length ≤ 2
theorem BackAt.below {w w' : World} {t : Nat} {s : List Int} (h : BackAt w t s) (hb : Below w.heap.size w w') : BackAt w' t s := by
  obtain ⟨F, T, h1, h2⟩ := h
  exact ⟨F, T, h1.below hb, h2⟩
theorem typed_back (N : Nat) (w : World) (t a m : Nat) (s u : List Int) (h : TypAt N w t s a u) (hN : N ≤ w.heap.size) (hs : s.length ≤ 300) (ha : a ≤ s.length) (hm : m = u.length) (hm2 : m ≤ 100) :
    Calls Try.prog 12 #[.pointer (some ⟨t, 0, none⟩), .int .i64 a, .int .i64 m, .slice none 0 0] w fun e w' => e = .returned (.int .i64 0) ∧ BackAt w' t s ∧ Below N w w' := by
  obtain ⟨F, hin, hF⟩ := h
  subst hm
  have hl := typ_len s a u ha
  by_cases h0 : u.length = 0
  · have hu : u = [] := List.eq_nil_of_length_eq_zero h0
    subst hu
    refine (splice_zero w t F _ a none 0 hin (by rw [hl]; omega)).mono ?_
    rintro e w' ⟨rfl, rfl⟩
    refine ⟨rfl, ⟨F, _, hin, ?_, ?_⟩, Below.refl _ _⟩
    · rw [typ_zero, new_text]
    · rw [typ_zero]
      unfold newTb
      simp only
      split <;> simp
  · have had : (typT s a u).add.length = u.length := by rw [typ_add]
    have hc := splice_do w t F (typT s a u) a u.length none 0 0 [] hin (by omega) (Lib.hid rfl) (by simp only [roomB, decide_eq_true_eq, hl, had]; omega) (by omega) (Rds.nil _ _ _ _) (by simp [blk])
    rw [typ_back s a u h0] at hc
    refine hc.mono ?_
    rintro e w' ⟨rfl, F', hin', hF', hcg⟩
    exact ⟨rfl, ⟨F', _, hin', back_text s a u ha, frbk_le a s.length⟩, hcg.below hF hN⟩
theorem back_pieces (w : World) (t : Nat) (s : List Int) (h : BackAt w t s) : Calls Try.prog 27 #[.pointer (some ⟨t, 0, none⟩)] w fun e w' => (∃ A n c, e = .returned (.slice A n c) ∧ n ≤ 2) ∧ Below w.heap.size w w' := by
  obtain ⟨F, T, h1, _, h3⟩ := h
  refine (pieces_any w t F T h1).mono ?_
  rintro e w' ⟨v, rfl, hown, hb⟩
  obtain ⟨A, c, rfl, _, _⟩ := own_form hown
  exact ⟨⟨A, _, c, rfl, h3⟩, hb⟩
theorem back_get (w : World) (t : Nat) (s : List Int) (h : BackAt w t s) : Calls Try.prog 26 #[.pointer (some ⟨t, 0, none⟩)] w fun e w' => (∃ A n c, e = .returned (.slice A n c) ∧ Rds w' w'.heap.size 1 A n (s.map (Value.int .i32)) ∧ n ≤ 1000) ∧ Below w.heap.size w w' := by
  obtain ⟨F, T, h1, rfl, h3⟩ := h
  have hl := h1.ok.len
  refine (text_any w t F T h1).mono ?_
  rintro e w' ⟨v, rfl, hown, hb⟩
  obtain ⟨A, c, rfl, _, _⟩ := own_form hown
  exact ⟨⟨A, _, c, rfl, Rds.of_own hown, hl⟩, hb⟩
theorem new_typed (W : World) (A : Option Addr) (m c a : Nat) (zs : List Int) (h1 : Hid (mayB zs = true)) (h2 : m ≤ 1000) (hr : Rds W W.heap.size 1 A m (zs.map (Value.int .i32))) :
    Calls Try.prog 10 #[.slice A m c] W fun e w' => ∃ t, e = .returned (.tuple #[.pointer (some ⟨t, 0, none⟩), .int .i64 0]) ∧ TypAt W.heap.size w' t zs a [] ∧ Below W.heap.size W w' := by
  refine (new_ok W A m c zs h1 h2 hr).mono ?_
  rintro e w' ⟨t, F, rfl, hin, hF, hb⟩
  exact ⟨t, rfl, ⟨F, hin, hF⟩, hb⟩
theorem typ_pieces (N : Nat) (w : World) (t a : Nat) (s u : List Int) (h : TypAt N w t s a u) : Calls Try.prog 27 #[.pointer (some ⟨t, 0, none⟩)] w fun e w' => (∃ A n c, e = .returned (.slice A n c) ∧ w'.ownsRow w.heap.size 53 3 (.slice A n c) n (pcs (typT s a u).ps) ∧ n ≤ 1000) ∧ Below w.heap.size w w' := by
  obtain ⟨F, h1, h3⟩ := h
  have hn := count_le h1.ok.pos
  have hl := h1.ok.len
  refine (pieces_any w t F _ h1).mono ?_
  rintro e w' ⟨v, rfl, hown, hb⟩
  obtain ⟨A, c, rfl, _, _⟩ := own_form hown
  exact ⟨⟨A, _, c, rfl, hown, by omega⟩, hb⟩
theorem cm_take {L : List Pc} {k : Nat} (hk : k < L.length) {p : Pc} (hp : L.getD k pc0 = p) : cm (L.take (k + 1)) (0, 0) = if p.add then ((cm (L.take k) (0, 0)).1 + 1, p.ln) else cm (L.take k) (0, 0) := by
  rw [take_getDp hk hp, cm_append]
  rfl
theorem cm_le (L : List Pc) : ∀ q, (cm L q).1 ≤ q.1 + L.length := by
  induction L with
  | nil => intro q; simp [cm]
  | cons p L ih =>
    intro q
    cases hp : p.add with
    | true =>
      have h1 := ih (q.1 + 1, p.ln)
      simp only [cm, hp, if_true, List.length_cons]
      simp only at h1
      omega
    | false =>
      have h1 := ih q
      simp only [cm, hp, Bool.false_eq_true, if_false, List.length_cons]
      omega
end Go.Proofs.Ytpfceochplghlaa
