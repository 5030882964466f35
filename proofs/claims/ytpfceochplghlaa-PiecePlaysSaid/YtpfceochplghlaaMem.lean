/- Words for memory: a slice value that reads as a list of cells; what is appended to a row of the call's own. Plain lemmas, over any program. -/
import Derived.Below
import Derived.Laws.OwnMore
import Derived.Deep.AppendLies
import Derived.Deep.Draws
import Derived.Laws.AppendOwnNone
import Derived.WalkSmall
import Derived.RegionTactic
namespace Go.Proofs.Ytpfceochplghlaa
open Go.RowKit

theorem block_add' (a : Addr) (n : Nat) : (a.add n).block = a.block := by unfold Addr.add; split <;> rfl
theorem add_add' (a : Addr) (i j : Nat) : (a.add i).add j = a.add (i + j) := by
  unfold Addr.add
  by_cases hi : i = 0 <;> by_cases hj : j = 0 <;> simp [hi, hj, Nat.add_assoc]
theorem add_zero' (a : Addr) : a.add 0 = a := rfl

/-- A slice value at A, of n elements of z cells each, holds the cells xs, and lies below block B. -/
def Rds (w : World) (B z : Nat) (A : Option Addr) (n : Nat) (xs : List Value) : Prop :=
  xs.length = n * z ∧ ∀ j, j < xs.length → ∃ ad, A = some ad ∧ ad.block < B ∧ w.cell? (ad.add j) = xs[j]?

section
variable {w w' : World} {B B' z n : Nat} {A : Option Addr} {xs : List Value}
theorem Rds.nil (w : World) (B z : Nat) (A : Option Addr) : Rds w B z A 0 [] := ⟨by simp, fun j h => by simp at h⟩
theorem Rds.keep (h : Rds w B z A n xs) (hk : ∀ p : Addr, p.block < B → w'.cell? p = w.cell? p) : Rds w' B z A n xs :=
  ⟨h.1, fun j hj => by
    obtain ⟨ad, e, hb, hc⟩ := h.2 j hj
    exact ⟨ad, e, hb, (hk _ (by rw [block_add']; exact hb)).trans hc⟩⟩
theorem Rds.more (h : Rds w B z A n xs) (hB : B ≤ B') : Rds w B' z A n xs :=
  ⟨h.1, fun j hj => by
    obtain ⟨ad, e, hb, hc⟩ := h.2 j hj
    exact ⟨ad, e, by omega, hc⟩⟩
theorem Rds.below (h : Rds w B z A n xs) (hb : Below B w w') : Rds w' B z A n xs := h.keep fun _ hp => hb.cell hp
theorem Rds.drewN (h : Rds w B z A n xs) (k : Nat) : Rds (w.drewN k) B z A n xs := h
theorem Rds.drew (h : Rds w B z A n xs) : Rds w.drew B z A n xs := h
theorem Rds.alloc (h : Rds w B z A n xs) (hB : B ≤ w.heap.size) (o : Obj) : Rds (w.alloc o) B z A n xs :=
  h.below ((Below.refl B w).alloc hB o)
theorem Rds.setCell (h : Rds w B z A n xs) {p : Addr} (hB : B ≤ p.block) (u : Value) : Rds (w.setCell p u) B z A n xs :=
  h.below ((Below.refl B w).setCell hB u)
/-- All at once: where there is an element there is an address. -/
theorem Rds.at_all (h : Rds w B z A n xs) (hn : 0 < n) (hz : 0 < z) : ∃ ad, A = some ad ∧ ad.block < B ∧ ∀ j, j < xs.length → w.cell? (ad.add j) = xs[j]? := by
  have hl : 0 < xs.length := by rw [h.1]; exact Nat.mul_pos hn hz
  obtain ⟨ad, e, hb, _⟩ := h.2 0 hl
  refine ⟨ad, e, hb, fun j hj => ?_⟩
  obtain ⟨ad', e', _, hc⟩ := h.2 j hj
  rw [e] at e'; injection e' with e'; subst e'; exact hc
/-- 's[k:h]'. -/
theorem Rds.cut (h : Rds w B z A n xs) {k m cap : Nat} (hkm : k ≤ m) (hmn : m ≤ n) (hc : n ≤ cap) :
    Rds w B z (if cap = k then A else A.map (·.add (k * z))) (m - k) ((xs.drop (k * z)).take ((m - k) * z)) := by
  have hl : ((xs.drop (k * z)).take ((m - k) * z)).length = (m - k) * z := by
    rw [List.length_take, List.length_drop, h.1, ← Nat.sub_mul]
    exact Nat.min_eq_left (Nat.mul_le_mul_right _ (by omega))
  refine ⟨hl, fun j hj => ?_⟩
  rw [hl] at hj
  have hk0 : ¬ cap = k := by
    intro e
    have : m - k = 0 := by omega
    rw [this] at hj; omega
  have hlt : k * z + j < xs.length := by
    rw [h.1]
    have h1 : k * z + (m - k) * z = m * z := by rw [← Nat.add_mul]; congr 1; omega
    have h2 : m * z ≤ n * z := Nat.mul_le_mul_right _ hmn
    omega
  obtain ⟨ad, rfl, hb, hcell⟩ := h.2 (k * z + j) hlt
  rw [if_neg hk0]
  refine ⟨ad.add (k * z), rfl, by rw [block_add']; exact hb, ?_⟩
  rw [add_add', hcell, List.getElem?_take, if_pos hj, List.getElem?_drop]
/-- 's[:m]'. -/
theorem Rds.front (h : Rds w B z A n xs) {m : Nat} (hmn : m ≤ n) : Rds w B z A m (xs.take (m * z)) := by
  have hle : m * z ≤ n * z := Nat.mul_le_mul_right _ hmn
  have hl : (xs.take (m * z)).length = m * z := by rw [List.length_take, h.1]; exact Nat.min_eq_left hle
  refine ⟨hl, fun j hj => ?_⟩
  rw [hl] at hj
  obtain ⟨ad, e, hb, hcell⟩ := h.2 j (by rw [h.1]; omega)
  exact ⟨ad, e, hb, by rw [hcell, List.getElem?_take, if_pos hj]⟩
theorem Rds.of_own {base : Nat} {e : TypeId} {c : Nat} (h : w.ownsRow base e z (.slice A n c) n xs) : Rds w w.heap.size z A n xs := by
  refine ⟨h.1, fun j hj => ?_⟩
  have hn : 0 < n := by
    rcases Nat.eq_zero_or_pos n with h0 | h0
    · rw [h.1, h0] at hj; omega
    · exact h0
  obtain ⟨g, cap, hv, _, hlt⟩ := h.form hn
  have hA : A = some ⟨g, 0, none⟩ := by injection hv
  subst hA
  exact ⟨_, rfl, hlt, by rw [h.cells (g := g) rfl j xs[j] (List.getElem?_eq_getElem hj), List.getElem?_eq_getElem hj]⟩
end

/-- The capacity of a row that the call owns. -/
theorem own_cap {w : World} {base z : Nat} {e : TypeId} {A : Option Addr} {n m c : Nat} {xs : List Value} (h : w.ownsRow base e z (.slice A n c) m xs) : n = m ∧ m ≤ c ∧ c ≤ maxLen := by
  rcases h.2 with ⟨hv, h0⟩ | ⟨g, cap, cur, hv, _, _, hc, hm, _⟩
  · injection hv with e1 e2 e3; subst e2 e3 h0; exact ⟨rfl, Nat.le_refl _, by simp [maxLen]⟩
  · injection hv with e1 e2 e3; subst e2 e3; exact ⟨rfl, hc, hm⟩
theorem own_base {w : World} {base z : Nat} {e : TypeId} {ad : Addr} {n m c : Nat} {xs : List Value} (h : w.ownsRow base e z (.slice (some ad) n c) m xs) : base ≤ ad.block ∧ ad.block < w.heap.size := h.lt _ rfl
/-- A row that the call owns is nil or a slice. -/
theorem own_form {w : World} {base z : Nat} {e : TypeId} {v : Value} {n : Nat} {xs : List Value} (h : w.ownsRow base e z v n xs) : ∃ A c, v = .slice A n c ∧ n ≤ c ∧ c ≤ maxLen := by
  rcases h.2 with ⟨hv, h0⟩ | ⟨g, cap, cur, hv, _, _, hc, hm, _⟩
  · subst h0; exact ⟨_, _, hv, Nat.le_refl _, by simp [maxLen]⟩
  · exact ⟨_, _, hv, hc, hm⟩
theorem own_below {w w' : World} {base z B : Nat} {e : TypeId} {v : Value} {n : Nat} {xs : List Value} (h : w.ownsRow base e z v n xs) (hb : Below B w w') (hB : ∀ k, v.ownBlock = some k → k < B) : w'.ownsRow base e z v n xs := by
  refine ⟨h.1, ?_⟩
  rcases h.2 with h0 | ⟨g, cap, cur, rfl, hg, hh, r⟩
  · exact .inl h0
  · exact .inr ⟨g, cap, cur, rfl, hg, by rw [hb.block g (hB g rfl)]; exact hh, r⟩
theorem own_drewN {w : World} {base z : Nat} {e : TypeId} {v : Value} {n : Nat} {xs : List Value} (h : w.ownsRow base e z v n xs) (k : Nat) : (w.drewN k).ownsRow base e z v n xs := h

/-- 'append(out, xs...)': out nil or the call's own; xs nil, empty or not. -/
theorem run_append_rds {P : Program} (w : World) (t ty : TypeId)
    (base : Nat) (e : TypeId) (i : TypeInfo) (z : Value) (size bytes : Nat) (ht : P.underlying t = some (.slice e)) (hi : P.info? e = some i) (hz : i.zero = some z)
    (hsize : i.size = size) (hby : i.bytes = bytes) (hzs : z.cells.size = size) (hsz : 0 < size)
    (v : Value) (n : Nat) (xs : List Value) (hown : w.ownsRow base e size v n xs)
    (B : Nat) (A : Option Addr) (m c : Nat) (news : List Value) (hr : Rds w B size A m news) (h1 : ∀ u ∈ news, u.oneCell' = true)
    (h63 : n + m ≤ maxLen) (hbytes : (n + m) * bytes ≤ 140737488355328) (hbase : base ≤ w.heap.size) :
    ∃ v' w', (Builtin.append_ #[t, t] ty #[v, .slice A m c]).run P w = .ok v' w' ∧ w'.ownsRow base e size v' (n + m) (xs ++ news) ∧ w.grownBy w' v.ownBlock ∧ (v'.ownBlock = v.ownBlock ∨ v'.ownBlock = some w.heap.size) := by
  rcases Nat.eq_zero_or_pos m with h0 | h0
  · subst h0
    have hn : news = [] := List.eq_nil_of_length_eq_zero (by simpa using hr.1)
    subst hn
    have hown' : w.ownsRow base e size v (n + 0) (xs ++ []) := by simpa using hown
    have hrun : (Builtin.append_ #[t, t] ty #[v, .slice A 0 c]).run P w = .ok v w := by
      rcases hown.2 with ⟨rfl, rfl⟩ | ⟨g, cap, cur, rfl, _, _, hnc, _⟩
      · cases A <;> simp [Builtin.append_, run_underlying ht, sizeOf, typeInfo, hi, Builtin.lenOf, Builtin.firstCells, loadCells, loadCellsFrom]
      · cases A <;> simp [Builtin.append_, run_underlying ht, sizeOf, typeInfo, hi, Builtin.lenOf, Builtin.firstCells, hnc, storeCells, loadCells, loadCellsFrom]
    exact ⟨v, w, hrun, hown', World.grownBy.refl w _, .inl rfl⟩
  · obtain ⟨ad, rfl, _, hc⟩ := hr.at_all h0 hsz
    obtain ⟨v', w', hrun, h2, h3, _, h5⟩ := run_append_own_at (P := P) w base t ty e i z size bytes ht hi hz hsize hby hzs hsz v n xs hown ad m c news hr.1 (fun j u hu => by rw [hc j (List.getElem?_eq_some_iff.1 hu).1, hu]) h1 h63 hbytes hbase
    exact ⟨v', w', hrun, h2, h3, h5⟩

theorem wp_append_rds {P : Program} {w : World} {o : Oper} {a : Act} {K : Act → World → Prop} {Q : Exit → Act → World → Prop} (s x : Operand) (t : TypeId)
    (ho : o.op = .call { callee := .builtin .append, args := #[s, x], argTypes := #[t, t] })
    (base : Nat) (e : TypeId) (i : TypeInfo) (z : Value) (size bytes : Nat) (ht : P.underlying t = some (.slice e)) (hi : P.info? e = some i) (hz : i.zero = some z)
    (hsize : i.size = size) (hby : i.bytes = bytes) (hzs : z.cells.size = size) (hsz : 0 < size)
    (v : Value) (n : Nat) (xs : List Value) (hs : a.eval s = v) (hown : w.ownsRow base e size v n xs)
    (B : Nat) (A : Option Addr) (m c : Nat) (news : List Value) (hx : a.eval x = .slice A m c) (hr : Rds w B size A m news) (h1 : ∀ u ∈ news, u.oneCell' = true)
    (h63 : n + m ≤ maxLen) (hbytes : (n + m) * bytes ≤ 140737488355328) (hbase : base ≤ w.heap.size)
    (h : ∀ v' w', w'.ownsRow base e size v' (n + m) (xs ++ news) → w.grownBy w' v.ownBlock → (v'.ownBlock = v.ownBlock ∨ v'.ownBlock = some w.heap.size) → K (a.put o.dst v') w') : o.wp P a w K Q := by
  obtain ⟨v', w', hrun, h2, h3, h4⟩ := run_append_rds (P := P) w t o.type base e i z size bytes ht hi hz hsize hby hzs hsz v n xs hown B A m c news hr h1 h63 hbytes hbase
  unfold Oper.wp execOp
  simp only [ho, resolve, invoke, builtin, Sem.run_bind, Sem.run_pure, Result.andThen_ok, List.map_toArray, List.map_cons, List.map_nil, hs, hx, hrun]
  exact h v' w' h2 h3 h4

theorem append_rds {P : Program} {w : World} {ops : Array Oper} {rest : List Oper} {o : Oper} {a : Act} {Q : Exit → Act → World → Prop} (hgd : o.guard = none) (s x : Operand) (t : TypeId)
    (ho : o.op = .call { callee := .builtin .append, args := #[s, x], argTypes := #[t, t] })
    (base : Nat) (e : TypeId) (i : TypeInfo) (z : Value) (size bytes : Nat) (ht : P.underlying t = some (.slice e)) (hi : P.info? e = some i) (hz : i.zero = some z)
    (hsize : i.size = size) (hby : i.bytes = bytes) (hzs : z.cells.size = size) (hsz : 0 < size)
    (v : Value) (n : Nat) (xs : List Value) (hs : a.eval s = v) (hown : w.ownsRow base e size v n xs)
    (B : Nat) (A : Option Addr) (m c : Nat) (news : List Value) (hx : a.eval x = .slice A m c) (hr : Rds w B size A m news) (h1 : ∀ u ∈ news, u.oneCell' = true)
    (h63 : n + m ≤ maxLen) (hbytes : (n + m) * bytes ≤ 140737488355328) (hbase : base ≤ w.heap.size)
    (h : ∀ v' w', w'.ownsRow base e size v' (n + m) (xs ++ news) → w.grownBy w' v.ownBlock → (v'.ownBlock = v.ownBlock ∨ v'.ownBlock = some w.heap.size) → wpList P ops Q rest (a.put o.dst v') w') : wpList P ops Q (o :: rest) a w :=
  wpList_plain hgd fun _ hK => wp_append_rds s x t ho base e i z size bytes ht hi hz hsize hby hzs hsz v n xs hs hown B A m c news hx hr h1 h63 hbytes hbase fun v' w' h2 h3 h4 => hK _ _ (h v' w' h2 h3 h4)

/-- The same at a step of a region that draws its order. -/
theorem step_append_rds {P : Program} {w : World} {ops : Array Oper} {o : Oper} {a : Act} {K : Act → World → Prop} {Q : Exit → Act → World → Prop} {E : Prop} (hgd : o.guard = none) (s x : Operand) (t : TypeId)
    (ho : o.op = .call { callee := .builtin .append, args := #[s, x], argTypes := #[t, t] })
    (base : Nat) (e : TypeId) (i : TypeInfo) (z : Value) (size bytes : Nat) (ht : P.underlying t = some (.slice e)) (hi : P.info? e = some i) (hz : i.zero = some z)
    (hsize : i.size = size) (hby : i.bytes = bytes) (hzs : z.cells.size = size) (hsz : 0 < size)
    (v : Value) (n : Nat) (xs : List Value) (hs : a.eval s = v) (hown : w.ownsRow base e size v n xs)
    (B : Nat) (A : Option Addr) (m c : Nat) (news : List Value) (hx : a.eval x = .slice A m c) (hr : Rds w B size A m news) (h1 : ∀ u ∈ news, u.oneCell' = true)
    (h63 : n + m ≤ maxLen) (hbytes : (n + m) * bytes ≤ 140737488355328) (hbase : base ≤ w.heap.size)
    (h : ∀ v' w', w'.ownsRow base e size v' (n + m) (xs ++ news) → w.grownBy w' v.ownBlock → (v'.ownBlock = v.ownBlock ∨ v'.ownBlock = some w.heap.size) → K (a.put o.dst v') w') :
    if Region.wanted o (yielded ops a.tmps) = true then Oper.wp P o a w K Q else E := by
  have hw : Region.wanted o (yielded ops a.tmps) = true := by simp [Region.wanted, hgd]
  rw [if_pos hw]
  exact wp_append_rds s x t ho base e i z size bytes ht hi hz hsize hby hzs hsz v n xs hs hown B A m c news hx hr h1 h63 hbytes hbase h

theorem oneCell_ints {k : IntKind} (zs : List Int) : ∀ u ∈ zs.map (Value.int k), u.oneCell' = true := by
  intro u hu; obtain ⟨z, _, rfl⟩ := List.mem_map.1 hu; rfl
theorem ints_at {k : IntKind} (zs : List Int) {j : Nat} (hj : j < zs.length) : (zs.map (Value.int k))[j]? = some (.int k (zs.getD j 0)) := by
  simp [List.getD, List.getElem?_eq_getElem hj]
/-- One number of a slice of numbers. -/
theorem Rds.int_at {w : World} {B n : Nat} {A : Option Addr} {k : IntKind} {zs : List Int} (h : Rds w B 1 A n (zs.map (Value.int k))) {j : Nat} (hj : j < n) :
    ∃ ad x, A = some ad ∧ ad.block < B ∧ w.cell? (ad.add j) = some (.int k x) ∧ Hid (x = zs.getD j 0) := by
  have hl : zs.length = n := by have := h.1; simpa using this
  obtain ⟨ad, e, hb, hc⟩ := h.2 j (by simp [hl, hj])
  exact ⟨ad, _, e, hb, by rw [hc, ints_at zs (by omega)], rfl⟩
theorem Rds.int_len {w : World} {B n : Nat} {A : Option Addr} {k : IntKind} {zs : List Int} (h : Rds w B 1 A n (zs.map (Value.int k))) : zs.length = n := by have := h.1; simpa using this
end Go.Proofs.Ytpfceochplghlaa
