/- A set in memory; the walks of New, has, Len, Get, Add. -/
import Derived.Test.YtkibhinpbpgkeaaF
namespace Go.Proofs.Ytkibhinpbpgkeaa
open Go.RowKit Go.ChangeMaps

/-- The set lies at block s, its map at b, its tree is t. -/
structure SetIn (W : World) (s b : Nat) (t : TR) : Prop where
  top : W.heap[s]? = some (.cells #[.pointer t.root, .map (some b)] 56 (0, 0))
  map : MapIs W b t.list
  tree : InW W t
  nd : (s :: b :: t.blocks).Nodup
  srt : Srt t
  hp : Hp t
  ids : Ids t.list
section
variable {W W' : World} {s b : Nat} {t : TR} {F : List Nat}
theorem SetIn.lt (h : SetIn W s b t) : ∀ g ∈ s :: b :: t.blocks, g < W.heap.size := by
  intro g hg
  simp only [List.mem_cons] at hg
  rcases hg with rfl | rfl | hg
  · exact heap_lt h.top
  · exact h.map.lt
  · exact h.tree.lt g hg
theorem SetIn.chg (h : SetIn W s b t) (hc : Chg F W W') (hn : ∀ g ∈ s :: b :: t.blocks, g ∉ F) : SetIn W' s b t where
  top := (hc.block s (heap_lt h.top) (hn s (by simp))).trans h.top
  map := h.map.keep (hc.block b h.map.lt (hn b (by simp)))
  tree := h.tree.chg hc fun g hg => hn g (by simp [hg])
  nd := h.nd
  srt := h.srt
  hp := h.hp
  ids := h.ids
theorem SetIn.below {B : Nat} (h : SetIn W s b t) (hb : Below B W W') (hB : ∀ g ∈ s :: b :: t.blocks, g < B) : SetIn W' s b t where
  top := (hb.block s (hB s (by simp))).trans h.top
  map := h.map.keep (hb.block b (hB b (by simp)))
  tree := h.tree.chg (F := (List.range W.heap.size).filter (B ≤ ·)) ⟨hb.os, hb.tape, hb.output, hb.size, fun k hk hn => hb.block k (by simp at hn; have := hn hk; omega)⟩ fun g hg => by
    have := hB g (by simp [hg])
    simp
    omega
  nd := h.nd
  srt := h.srt
  hp := h.hp
  ids := h.ids
theorem SetIn.cells (h : SetIn W s b t) : W.cell? ⟨s, 0, none⟩ = some (.pointer t.root) ∧ W.cell? ⟨s, 1, none⟩ = some (.map (some b)) := ⟨cell_of_row W s 0 _ _ _ h.top, cell_of_row W s 1 _ _ _ h.top⟩
theorem SetIn.free (h : SetIn W s b t) (j : Nat) : W.frozen? ⟨s, j, none⟩ = false := frozen_of_row W s j _ _ h.top
/-- The top written anew. -/
theorem top_set {r : Value} {q : Value} (h : W.heap[s]? = some (.cells #[q, .map (some b)] 56 (0, 0))) : (W.setCell ⟨s, 0, none⟩ r).heap[s]? = some (.cells #[r, .map (some b)] 56 (0, 0)) := heap_setCell_same W s 0 _ _ r h
end

/-- Has a list a mark of a number? -/
def hasB (K : List Mk) (i : Int) : Bool := K.any fun x => x.id == i
theorem hasB_true {K : List Mk} {i : Int} (h : hasB K i = true) : ∃ m ∈ K, m.id = i := by simpa [hasB] using h
theorem hasB_false {K : List Mk} {i : Int} (h : hasB K i = false) : ∀ x ∈ K, x.id ≠ i := by simpa [hasB] using h

theorem new_any (W : World) : Calls Try.prog 10 #[] W fun e w' => e = .returned (.pointer (some ⟨W.heap.size + 1, 0, none⟩)) ∧ SetIn w' (W.heap.size + 1) W.heap.size .nil ∧ Below W.heap.size W w' := by
  have hmm := @run_makeMap Try.prog
  go_enter Try.func10, Try.ntmps10
  go_wp2
  go_ret
  refine ⟨by simp, ?_, ((Below.refl _ _).alloc (Nat.le_refl _) _).alloc (by simp) _⟩
  refine ⟨?_, ?_, trivial, by simp [TR.blocks], List.Pairwise.nil, trivial, List.Pairwise.nil⟩
  · have h := heap_new (W.alloc (.map #[] 0)) (.cells #[.pointer none, .map (some W.heap.size)] 56 (0, 0))
    rw [show (W.alloc (.map #[] 0)).heap.size = W.heap.size + 1 from by simp] at h
    exact h
  · exact (MapIs.made W).keep (Chg.block ((Chg.refl [] _).alloc _) _ (by simp) (by simp))

theorem has_any (W : World) (s b : Nat) (t : TR) (i : Int) (h : SetIn W s b t) : Calls Try.prog 26 #[.pointer (some ⟨s, 0, none⟩), .int .i64 i] W fun e w' => e = .returned (.bool (hasB t.list i)) ∧ Below W.heap.size W w' := by
  obtain ⟨c0, c1⟩ := h.cells
  by_cases hh : hasB t.list i = true
  · obtain ⟨m, hm, rfl⟩ := hasB_true hh
    have hl := (h.map.hit h.ids hm).1
    rw [hh]
    clear h hh hm
    go_enter Try.func26, Try.ntmps26
    go_wp2
    go_ret
    refine ⟨rfl, ?_⟩
    repeat (first | exact Below.refl _ _ | refine below_drewN ?_ _ | refine Below.drew ?_ | refine Below.alloc ?_ (by first | omega | (simp <;> omega)) _ | refine Below.setCell ?_ (by first | omega | (simp <;> omega)) _)
  · have hl := h.map.miss (hasB_false (by simpa using hh))
    rw [show hasB t.list i = false from by simpa using hh]
    clear h hh
    go_enter Try.func26, Try.ntmps26
    go_wp2
    go_ret
    refine ⟨rfl, ?_⟩
    repeat (first | exact Below.refl _ _ | refine below_drewN ?_ _ | refine Below.drew ?_ | refine Below.alloc ?_ (by first | omega | (simp <;> omega)) _ | refine Below.setCell ?_ (by first | omega | (simp <;> omega)) _)

theorem len_any (W : World) (s b : Nat) (t : TR) (h : SetIn W s b t) : Calls Try.prog 19 #[.pointer (some ⟨s, 0, none⟩)] W fun e w' => e = .returned (.int .i64 t.list.length) ∧ W = w' := by
  obtain ⟨c0, c1⟩ := h.cells
  have hl := fun ty => h.map.len ty
  clear h
  go_enter Try.func19, Try.ntmps19
  go_wp2
  go_ret
  exact ⟨rfl, rfl⟩
theorem len_none (W : World) : Calls Try.prog 19 #[.pointer none] W fun e w' => e = .returned (.int .i64 0) ∧ W = w' := by
  go_enter Try.func19, Try.ntmps19
  go_wp2
  go_ret
  exact ⟨rfl, rfl⟩
theorem get_hit (W : World) (s b : Nat) (t : TR) (m : Mk) (h : SetIn W s b t) (hm : m ∈ t.list) : Calls Try.prog 29 #[.pointer (some ⟨s, 0, none⟩), .int .i64 m.id] W fun e w' => e = .returned (.tuple #[mv m, .bool true]) ∧ Below W.heap.size W w' := by
  obtain ⟨c0, c1⟩ := h.cells
  have hs : s < W.heap.size := h.lt s (by simp)
  have hc : (W.alloc (.cells #[.int .i64 0, .int .i64 0, .int .i64 0, .int .i64 0] 30 (0, 0))).heap[b]? = W.heap[b]? := Chg.block ((Chg.refl [] _).alloc _) b h.map.lt (by simp)
  have hl := ((h.map.keep hc).hit h.ids hm).1
  clear h hm hc
  go_enter Try.func29, Try.ntmps29
  go_wp2
  refine bodyPost_ret (v := .tuple #[mv m, .bool true]) (by simp [results, Try.results29, go_sem]) rfl ⟨rfl, ?_⟩
  repeat (first | exact Below.refl _ _ | refine below_drewN ?_ _ | refine Below.drew ?_ | refine Below.alloc ?_ (by first | omega | (simp <;> omega)) _ | refine Below.setCell ?_ (by first | omega | (simp <;> omega)) _)
theorem get_miss (W : World) (s b : Nat) (t : TR) (i : Int) (h : SetIn W s b t) (hm : ∀ x ∈ t.list, x.id ≠ i) : Calls Try.prog 29 #[.pointer (some ⟨s, 0, none⟩), .int .i64 i] W fun e w' => e = .returned (.tuple #[mv ⟨0, 0, 0, 0⟩, .bool false]) ∧ Below W.heap.size W w' := by
  obtain ⟨c0, c1⟩ := h.cells
  have hs : s < W.heap.size := h.lt s (by simp)
  have hc : (W.alloc (.cells #[.int .i64 0, .int .i64 0, .int .i64 0, .int .i64 0] 30 (0, 0))).heap[b]? = W.heap[b]? := Chg.block ((Chg.refl [] _).alloc _) b h.map.lt (by simp)
  have hl := (h.map.keep hc).miss hm
  clear h hm hc
  go_enter Try.func29, Try.ntmps29
  go_wp2
  refine bodyPost_ret (v := .tuple #[mv ⟨0, 0, 0, 0⟩, .bool false]) (by simp [results, Try.results29, go_sem]) rfl ⟨rfl, ?_⟩
  repeat (first | exact Below.refl _ _ | refine below_drewN ?_ _ | refine Below.drew ?_ | refine Below.alloc ?_ (by first | omega | (simp <;> omega)) _ | refine Below.setCell ?_ (by first | omega | (simp <;> omega)) _)
end Go.Proofs.Ytkibhinpbpgkeaa
