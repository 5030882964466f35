/- What holds of a world while a call goes on: nothing old has turned, some cells are known. Plain lemmas. -/
import Derived.Test.YtpfceochplghlaaMem
namespace Go.Proofs.Ytpfceochplghlaa
open Go.RowKit

/-- Nothing below w's end has turned, and the listed cells hold what is listed. -/
def Hold (w : World) (l : List (Nat × Nat × Value)) (W : World) : Prop :=
  Below w.heap.size w W ∧ ∀ b o v, (b, o, v) ∈ l → b < W.heap.size ∧ W.cell? ⟨b, o, none⟩ = some v
section
variable {w W W' : World} {l : List (Nat × Nat × Value)}
theorem Hold.below (h : Hold w l W) (hb : Below W.heap.size W W') : Hold w l W' :=
  ⟨h.1.trans (hb.mono h.1.size), fun b o v hm => by
    obtain ⟨h1, h2⟩ := h.2 b o v hm
    exact ⟨Nat.lt_of_lt_of_le h1 hb.size, (hb.cell (p := ⟨b, o, none⟩) h1).trans h2⟩⟩
theorem Hold.drew (h : Hold w l W) : Hold w l W.drew := h.below (Below.drew (Below.refl _ _))
theorem Hold.drewN (h : Hold w l W) (k : Nat) : Hold w l (W.drewN k) := h.below (below_drewN (Below.refl _ _) k)
theorem Hold.alloc (h : Hold w l W) (o : Obj) : Hold w l (W.alloc o) := h.below ((Below.refl _ _).alloc (Nat.le_refl _) o)
theorem Hold.at_ (h : Hold w l W) (i : Nat) {b o : Nat} {v : Value} (hi : l[i]? = some (b, o, v)) : W.cell? ⟨b, o, none⟩ = some v := (h.2 b o v (List.mem_of_getElem? hi)).2
theorem Hold.lt_ (h : Hold w l W) (i : Nat) {b o : Nat} {v : Value} (hi : l[i]? = some (b, o, v)) : b < W.heap.size := (h.2 b o v (List.mem_of_getElem? hi)).1
theorem Hold.size (h : Hold w l W) : w.heap.size ≤ W.heap.size := h.1.size
theorem Hold.bel (h : Hold w l W) : Below w.heap.size w W := h.1
/-- One cell more. -/
theorem Hold.cons (h : Hold w l W) {b o : Nat} {v : Value} (hb : b < W.heap.size) (hc : W.cell? ⟨b, o, none⟩ = some v) : Hold w ((b, o, v) :: l) W :=
  ⟨h.1, fun b' o' v' hm => by
    rcases List.mem_cons.1 hm with e | hm
    · injection e with e1 e2; injection e2 with e2 e3; subst e1 e2 e3; exact ⟨hb, hc⟩
    · exact h.2 _ _ _ hm⟩
theorem Hold.nil (h : Below w.heap.size w W) : Hold w [] W := ⟨h, fun _ _ _ hm => by cases hm⟩
/-- A store into a block that the list does not name. -/
theorem Hold.setCell (h : Hold w l W) {p : Addr} (hp : w.heap.size ≤ p.block) (hn : ∀ b o v, (b, o, v) ∈ l → b ≠ p.block) (u : Value) : Hold w l (W.setCell p u) :=
  ⟨h.1.setCell hp u, fun b o v hm => by
    obtain ⟨h1, h2⟩ := h.2 b o v hm
    exact ⟨by simpa [World.setCell] using h1, (World.cell?_setCell_other W p ⟨b, o, none⟩ u (fun e => hn b o v hm (by rw [e]))).trans h2⟩⟩
end
end Go.Proofs.Ytpfceochplghlaa
