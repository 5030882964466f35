/- A table beside a plain row: the contracts of PieceList. -/
import Derived.Test.YtpfceochplghlaaEa
import Derived.Test.YtpfceochplghlaaZc
import Derived.Test.YtpfceochplghlaaDa
namespace Go.Proofs.Ytpfceochplghlaa
open Go.RowKit

/-- A table whose text is S2 beside a row that reads S; all of it lies at N or behind, none of the table's blocks is the row's. -/
def ListAt (N : Nat) (w : World) (t : Nat) (A : Option Addr) (n c : Nat) (S S2 : List Int) : Prop :=
  ∃ F T, TabIn w t F T ∧ T.text = S2 ∧ (∀ g ∈ F, N ≤ g) ∧ (∀ g ∈ blk A, g ∉ F) ∧ w.ownsRow N 21 1 (.slice A n c) n (S.map (Value.int .i32))
theorem ListAt.below {N : Nat} {w w' : World} {t n c : Nat} {A : Option Addr} {S S2 : List Int} (h : ListAt N w t A n c S S2) (hb : Below w.heap.size w w') : ListAt N w' t A n c S S2 := by
  obtain ⟨F, T, h1, h2, h3, h4, h5⟩ := h
  exact ⟨F, T, h1.below hb, h2, h3, h4, own_below h5 hb fun k hk => (h5.lt k hk).2⟩
theorem ListAt.row {N : Nat} {w : World} {t n c : Nat} {A : Option Addr} {S S2 : List Int} (h : ListAt N w t A n c S S2) : w.ownsRow N 21 1 (.slice A n c) n (S.map (Value.int .i32)) := by
  obtain ⟨F, T, _, _, _, _, h5⟩ := h
  exact h5
theorem ListAt.len {N : Nat} {w : World} {t n c : Nat} {A : Option Addr} {S S2 : List Int} (h : ListAt N w t A n c S S2) : S.length = n := by
  have h1 := h.row.1
  simpa using h1
theorem ListAt.len2 {N : Nat} {w : World} {t n c : Nat} {A : Option Addr} {S S2 : List Int} (h : ListAt N w t A n c S S2) : S2.length ≤ 1000 := by
  obtain ⟨F, T, h1, rfl, _⟩ := h
  rw [text_len h1.ok]
  exact h1.ok.len
/-- Another row. -/
theorem ListAt.other {N : Nat} {w w' : World} {t n c n' c' : Nat} {A A' : Option Addr} {S S2 S3 : List Int} (h : ListAt N w t A n c S S2) (hb : Below w.heap.size w w') (hN : N ≤ w.heap.size) (ho : w'.ownsRow w.heap.size 21 1 (.slice A' n' c') n' (S3.map (Value.int .i32))) : ListAt N w' t A' n' c' S3 S2 := by
  obtain ⟨F, T, h1, h2, h3, h4, h5⟩ := h
  exact ⟨F, T, h1.below hb, h2, h3, fun g hg hf => by have := h1.lt g hf; have := blk_ge ho (Nat.le_refl _) g hg; omega, own_lower ho hN⟩
/-- Is a splice done, and what does it leave? -/
def splB (S : List Int) (l1 : Nat) (a k : Int) (zs : List Int) : Bool := thereB S.length a k && mayB zs && roomB S.length k.toNat l1 zs.length
def splL (S : List Int) (a k : Nat) (zs : List Int) : List Int := S.take a ++ zs ++ S.drop (a + k)

/-- A splice that is done. -/
def DonePost (N : Nat) (w : World) (o : Obj) (t n c : Nat) (A : Option Addr) (S : List Int) (pl ct : Int) (zs : List Int) (e : Ending) (w' : World) : Prop :=
  e = .returned (.int .i64 0) ∧ w'.heap[w.heap.size]? = some o ∧ Below N (w.alloc o) w' ∧ ListAt N w' t A n c S (splL S pl.toNat ct.toNat zs)
/-- One that is not. -/
def NotPost (N : Nat) (w : World) (o : Obj) (t n c : Nat) (A : Option Addr) (S : List Int) (r : Int) (e : Ending) (w' : World) : Prop :=
  e = .returned (.int .i64 r) ∧ w'.heap[w.heap.size]? = some o ∧ Below N (w.alloc o) w' ∧ ListAt N w' t A n c S S
theorem alloc_keep (w : World) (o : Obj) (F : List Nat) (w' : World) (h : Chg F (w.alloc o) w') (hF : ∀ g ∈ F, g < w.heap.size) : w'.heap[w.heap.size]? = some o :=
  (h.block _ (by simp) fun hf => Nat.lt_irrefl _ (hF _ hf)).trans (heap_alloc_new _ _)

theorem list_step (N : Nat) (w : World) (o : Obj) (t n c m d : Nat) (A B : Option Addr) (S zs : List Int) (pl ct : Int) (h : ListAt N w t A n c S S) (hN : N ≤ w.heap.size) (hr : Rds w N 1 B m (zs.map (Value.int .i32))) (hm : m ≤ 9223372036854775807) :
    (thereB S.length pl ct = true ∧ Calls Try.prog 12 #[.pointer (some ⟨t, 0, none⟩), .int .i64 pl, .int .i64 ct, .slice B m d] (w.alloc o) (DonePost N w o t n c A S pl ct zs)) ∨ (∃ r : Int, (r == 0) = false ∧ Calls Try.prog 12 #[.pointer (some ⟨t, 0, none⟩), .int .i64 pl, .int .i64 ct, .slice B m d] (w.alloc o) (NotPost N w o t n c A S r)) := by
  have hlb : ListAt N (w.alloc o) t A n c S S := h.below ((Below.refl _ _).alloc (Nat.le_refl _) _)
  have hn := h.len
  have hzl := hr.int_len
  obtain ⟨F, T, hin, htx, hF, hA, hrow⟩ := h
  have hin2 : TabIn (w.alloc o) t F T := hin.below ((Below.refl _ _).alloc (Nat.le_refl _) _)
  have hlen : plen T.ps = S.length := by rw [← htx, text_len hin.ok]
  have hr2 : Rds (w.alloc o) N 1 B m (zs.map (Value.int .i32)) := hr.alloc hN o
  have hkeep : (w.alloc o).heap[w.heap.size]? = some o := heap_alloc_new _ _
  cases ht : thereB S.length pl ct with
  | false =>
    refine .inr ⟨2, rfl, (splice_arg (w.alloc o) t F T pl ct B m d hin2 (Lib.hid (by rw [hlen]; exact ht))).mono ?_⟩
    rintro e w' ⟨rfl, rfl⟩
    exact ⟨rfl, hkeep, Below.refl _ _, hlb⟩
  | true =>
    have ht' := ht
    simp only [thereB, decide_eq_true_eq] at ht'
    obtain ⟨a, rfl⟩ : ∃ a : Nat, pl = a := ⟨pl.toNat, by omega⟩
    obtain ⟨k, rfl⟩ : ∃ k : Nat, ct = k := ⟨ct.toNat, by omega⟩
    cases hmb : mayB zs with
    | false =>
      refine .inr ⟨1, rfl, (splice_form (w.alloc o) t F T a k B m d N zs hin2 (Lib.hid (by rw [hlen]; exact ht)) (Lib.hid hmb) hr2 hm).mono ?_⟩
      rintro e w' ⟨rfl, rfl⟩
      exact ⟨rfl, hkeep, Below.refl _ _, hlb⟩
    | true =>
      cases hrm : roomB (plen T.ps) k T.add.length m with
      | false =>
        refine .inr ⟨3, rfl, (splice_full (w.alloc o) t F T a k B m d N zs hin2 (Lib.hid (by rw [hlen]; exact ht)) (Lib.hid hmb) hrm (by omega) hr2 hm).mono ?_⟩
        rintro e w' ⟨rfl, rfl⟩
        exact ⟨rfl, hkeep, Below.refl _ _, hlb⟩
      | true =>
        have hsx : splL S ((a : Int)).toNat ((k : Int)).toNat zs = S.take a ++ zs ++ S.drop (a + k) := rfl
        by_cases hz : k = 0 ∧ m = 0
        · obtain ⟨rfl, rfl⟩ := hz
          have hz0 : zs = [] := List.eq_nil_of_length_eq_zero hzl
          refine .inl ⟨rfl, (splice_zero (w.alloc o) t F T a B d hin2 (by omega)).mono ?_⟩
          rintro e w' ⟨rfl, rfl⟩
          refine ⟨rfl, hkeep, Below.refl _ _, ?_⟩
          rw [hsx, hz0, List.append_nil, Nat.add_zero, List.take_append_drop]
          exact hlb
        · have hB : 0 < m → ∀ g ∈ blk B, g ∉ F := fun hm0 g hg hf => by have := hr.blk_lt hm0 (by omega) g hg; have := hF g hf; omega
          refine .inl ⟨rfl, (splice_all (w.alloc o) t F T a k B m d zs hin2 (by omega) (Lib.hid hmb) hrm hz (hr2.more (by simp; omega)) hB).mono ?_⟩
          rintro e w' ⟨rfl, F', hin', hF', hcg⟩
          refine ⟨rfl, alloc_keep w o F w' hcg hin.lt, hcg.below hF (by simp; omega), F', _, hin', ?_, fun g hg => ?_, fun g hg hf => ?_, ?_⟩
          · rw [spl_text hin.ok, htx, hsx]
          · rcases hF' g hg with h | h
            · exact hF g h
            · simp at h; omega
          · rcases hF' g hf with h | h
            · exact hA g hg h
            · have := blk_lt hrow g hg
              simp at h; omega
          · exact own_keep (own_below hrow ((Below.refl _ _).alloc (Nat.le_refl _) o) fun k hk => (hrow.lt k hk).2) hcg hA
theorem list_text (N : Nat) (w : World) (t n c : Nat) (A : Option Addr) (S S2 : List Int) (h : ListAt N w t A n c S S2) : Calls Try.prog 26 #[.pointer (some ⟨t, 0, none⟩)] w fun e w' => (∃ A' n' c', e = .returned (.slice A' n' c') ∧ Rds w' w'.heap.size 1 A' n' (S2.map (Value.int .i32)) ∧ n' ≤ 1000) ∧ Below w.heap.size w w' := by
  obtain ⟨F, T, h1, rfl, h3⟩ := h
  have hl := h1.ok.len
  refine (text_any w t F T h1).mono ?_
  rintro e w' ⟨v, rfl, hown, hb⟩
  obtain ⟨A, c, rfl, _, _⟩ := own_form hown
  exact ⟨⟨A, _, c, rfl, Rds.of_own hown, hl⟩, hb⟩
theorem list_len (N : Nat) (w : World) (t n c : Nat) (A : Option Addr) (S : List Int) (h : ListAt N w t A n c S S) : Calls Try.prog 13 #[.pointer (some ⟨t, 0, none⟩)] w fun e w' => e = .returned (.int .i64 n) ∧ w = w' := by
  have hn := h.len
  obtain ⟨F, T, h1, h2, h3⟩ := h
  exact len_any w t F T n (Lib.hid (by rw [← hn, ← h2, text_len h1.ok])) h1
theorem list_new (N : Nat) (W : World) (A : Option Addr) (m c : Nat) (zs : List Int) (h1 : Hid (mayB zs = true)) (h2 : m ≤ 1000) (ho : W.ownsRow N 21 1 (.slice A m c) m (zs.map (Value.int .i32))) (hN : N ≤ W.heap.size) :
    Calls Try.prog 10 #[.slice A m c] W fun e w' => ∃ t, e = .returned (.tuple #[.pointer (some ⟨t, 0, none⟩), .int .i64 0]) ∧ ListAt N w' t A m c zs zs ∧ Below W.heap.size W w' := by
  refine (new_ok W A m c zs h1 h2 (Rds.of_own ho)).mono ?_
  rintro e w' ⟨t, F, rfl, hin, hF, hb⟩
  exact ⟨t, rfl, ⟨F, _, hin, new_text zs, fun g hg => Nat.le_trans hN (hF g hg), fun g hg hf => by have := blk_lt ho g hg; have := hF g hf; omega, own_below ho hb fun k hk => (ho.lt k hk).2⟩, hb⟩
end Go.Proofs.Ytpfceochplghlaa
