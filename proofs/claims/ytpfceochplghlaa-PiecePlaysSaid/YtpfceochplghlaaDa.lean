/- A slice of deeds that came in. -/
import Derived.Test.YtpfceochplghlaaP0
import Derived.Deep.SlicePairs
namespace Go.Proofs.Ytpfceochplghlaa
open Go.ChangeShapes Go.WideShapes Go.ChangeAt Go.RowKit Go.Deep Go.Joins

/-- A deed, with the signs that it puts. -/
structure Dd where
  how : Int
  pl : Int
  ct : Int
  A : Option Addr
  n : Nat
  c : Nat
  zs : List Int
def dd0 : Dd := ⟨0, 0, 0, none, 0, 0, []⟩
def ddc (d : Dd) : List Value := [.int .i64 d.how, .int .i64 d.pl, .int .i64 d.ct, .slice d.A d.n d.c]
/-- What it puts, in memory. -/
def PutAt (W : World) (B : Nat) (d : Dd) : Prop := Rds W B 1 d.A d.n (d.zs.map (Value.int .i32)) ∧ d.n ≤ d.c ∧ d.c ≤ maxLen ∧ d.c * 4 ≤ 140737488351232
def RdD (W : World) (B : Nat) (A : Option Addr) (n : Nat) (L : List Dd) : Prop :=
  L.length = n ∧ ∀ k, k < n → ∃ ad, A = some ad ∧ ad.block < B ∧ (∀ j, j < 4 → W.cell? (ad.add (k * 4 + j)) = (ddc (L.getD k dd0))[j]?) ∧ PutAt W B (L.getD k dd0)
theorem RdD.below {W w : World} {B n : Nat} {A : Option Addr} {L : List Dd} (h : RdD W B A n L) (hb : Below B W w) : RdD w B A n L :=
  ⟨h.1, fun k hk => by
    obtain ⟨ad, e, hB, hc, hp⟩ := h.2 k hk
    exact ⟨ad, e, hB, fun j hj => (hb.cell (by rw [block_add']; exact hB)).trans (hc j hj), hp.1.below hb, hp.2⟩⟩
theorem add_field (ad : Addr) (q j : Nat) (hj : 0 < j) : (⟨(ad.add q).block, (ad.add q).off + j, none⟩ : Addr) = ad.add (q + j) := by
  unfold Addr.add
  by_cases hq : q = 0
  · subst hq
    rw [if_pos rfl, if_neg (by omega)]
    simp
  · rw [if_neg hq, if_neg (by omega)]
    simp [Nat.add_assoc]
theorem RdD.at_ {W : World} {B n k : Nat} {A : Option Addr} {L : List Dd} (h : RdD W B A n L) (hk : k < n) : ∃ (ad : Addr) (m : Dd), A = some ad ∧ (ad.add (k * 4)).block < B ∧ Hid (L.getD k dd0 = m) ∧
    W.cell? (ad.add (k * 4)) = some (.int .i64 m.how) ∧ W.cell? ⟨(ad.add (k * 4)).block, (ad.add (k * 4)).off + 1, none⟩ = some (.int .i64 m.pl) ∧ W.cell? ⟨(ad.add (k * 4)).block, (ad.add (k * 4)).off + 2, none⟩ = some (.int .i64 m.ct) ∧ W.cell? ⟨(ad.add (k * 4)).block, (ad.add (k * 4)).off + 3, none⟩ = some (.slice m.A m.n m.c) ∧ PutAt W B m := by
  obtain ⟨ad, e, hB, hc, hp⟩ := h.2 k hk
  refine ⟨ad, _, e, by rw [block_add']; exact hB, rfl, hc 0 (by omega), ?_, ?_, ?_, hp⟩
  · rw [add_field _ _ _ (by omega)]; exact hc 1 (by omega)
  · rw [add_field _ _ _ (by omega)]; exact hc 2 (by omega)
  · rw [add_field _ _ _ (by omega)]; exact hc 3 (by omega)

section
variable {H : Type} {enc : TypeId × Value → H}
theorem cells44 : Try.prog.cellsOf 44 = 4 := by kernel_rfl
theorem struct44 : ∃ f0 f1 f2 f3 : Field, Try.prog.underlying 44 = some (.struct #[f0, f1, f2, f3]) ∧ f0.type = 3 ∧ f1.type = 3 ∧ f2.type = 3 ∧ f3.type = 23 ∧ f0.offset = 0 ∧ f1.offset = 1 ∧ f2.offset = 2 ∧ f3.offset = 3 :=
  ⟨_, _, _, _, Try.underlying44, rfl, rfl, rfl, rfl, rfl, rfl, rfl, rfl⟩
theorem cells3 : Try.prog.cellsOf 3 = 1 := by kernel_rfl
theorem cells23 : Try.prog.cellsOf 23 = 1 := by kernel_rfl
theorem trod_slice_form {W : World} {fuel : Nat} {a : Value} {y : DataW H × List MemPlace} (h : DataW.trod enc Try.prog W 0 (fun _ => true) true fuel 23 [a] = some y) (hw : ∀ q ∈ y.1.weights Try.prog 23, q ≤ reachBytes) :
    ∃ (A : Option Addr) (n c : Nat) (zs : List Int), a = .slice A n c ∧ Rds W W.heap.size 1 A n (zs.map (Value.int .i32)) ∧ n ≤ c ∧ c ≤ maxLen ∧ c * 4 ≤ 140737488351232 := by
  obtain ⟨A, n, c, zs, e, hr, h1, h2, h3, _⟩ := open_rds (b := 4) Try.underlying23 Try.underlying21 cells21 bytes21 h hw
  exact ⟨A, n, c, zs, e, hr, h1, h2, h3⟩
/-- A deed's cells, read. -/
theorem open_deed {W : World} {n : Nat} {cs : List Value} {y : DataW H × List MemPlace} (h : DataW.trod enc Try.prog W 0 (fun _ => true) true n 44 cs = some y) (hw : ∀ q ∈ y.1.weights Try.prog 44, q ≤ reachBytes) : ∃ m : Dd, cs = ddc m ∧ PutAt W W.heap.size m := by
  obtain ⟨f0, f1, f2, f3, hs, t0, t1, t2, t3, o0, o1, o2, o3⟩ := struct44
  obtain ⟨y0, y1, y2, y3, k, hy, hl, g0, g1, g2, g3⟩ := trod_struct4 hs h
  rw [cells44] at hl
  have hw3 : ∀ q ∈ y3.1.weights Try.prog 23, q ≤ reachBytes := fun q hq => by
    refine hw q ?_
    rw [hy]
    simp only [DataW.weights, hs, List.map_cons, List.map_nil, DataW.weightsEach, t3]
    simp [hq]
  match cs, hl with
  | [a, b, c, d], _ =>
    rw [t0, o0, cells3] at g0
    rw [t1, o1, cells3] at g1
    rw [t2, o2, cells3] at g2
    rw [t3, o3, cells23] at g3
    obtain ⟨i0, e0, _⟩ := DataW.trod_int Try.underlying3 (show DataW.trod enc Try.prog W 0 (fun _ => true) true k 3 [a] = some y0 from g0)
    obtain ⟨i1, e1, _⟩ := DataW.trod_int Try.underlying3 (show DataW.trod enc Try.prog W 0 (fun _ => true) true k 3 [b] = some y1 from g1)
    obtain ⟨i2, e2, _⟩ := DataW.trod_int Try.underlying3 (show DataW.trod enc Try.prog W 0 (fun _ => true) true k 3 [c] = some y2 from g2)
    obtain ⟨A, n', c', zs, e3, hr, h1, h2, h3⟩ := trod_slice_form (show DataW.trod enc Try.prog W 0 (fun _ => true) true k 23 [d] = some y3 from g3) hw3
    cases e0; cases e1; cases e2
    subst e3
    exact ⟨⟨i0, i1, i2, A, n', c', zs⟩, rfl, hr, h1, h2, h3⟩
theorem weights_all_mem {P : Program} {e : TypeId} {d : DataW H} {q : Nat} (hq : q ∈ d.weights P e) : ∀ l : List (DataW H), d ∈ l → q ∈ DataW.weightsAll P e l
  | [], h => by cases h
  | x :: r, h => by
    simp only [DataW.weightsAll, List.mem_append]
    rcases List.mem_cons.1 h with rfl | h
    · exact .inl hq
    · exact .inr (weights_all_mem hq r h)
theorem open_deeds {v : Value} {d : DataW H} {p : List MemPlace} {W : World} {r : Reach} {b0 : Nat} (hv : Value.okWide Try.prog W r b0 33 v) (h : DataW.Trod enc Try.prog W 0 (fun _ => true) true 33 v d p) (hw : ∀ q ∈ d.weights Try.prog 33, q ≤ reachBytes) :
    ∃ (A : Option Addr) (n c : Nat) (L : List Dd), v = .slice A n c ∧ RdD W W.heap.size A n L ∧ n ≤ c ∧ c ≤ maxLen := by
  obtain ⟨a0, len, cap, rfl⟩ := okWide_slice Try.underlying33 hv
  obtain ⟨fuel, hf⟩ := h
  have hf : DataW.trod enc Try.prog W 0 (fun _ => true) true fuel 33 [.slice a0 len cap] = some (d, p) := by simpa [Value.cells] using hf
  rcases open_slice Try.underlying33 hf with ⟨hcs, _⟩ | ⟨a, len', cap', m, n, D, Pl, hcs, _, hl, hm, hmm, hx0, hx⟩
  · simp only [List.cons.injEq, and_true] at hcs
    exact ⟨none, 0, 0, [], hcs, ⟨rfl, fun k hk => by omega⟩, Nat.le_refl _, by simp [maxLen]⟩
  · simp only [List.cons.injEq, and_true] at hcs
    rw [hcs]
    simp only [if_true] at hmm
    have hd : d = .slice ((List.range len').map D) ((List.range (m - len')).map fun j => D (len' + j)) := congrArg Prod.fst hx0
    have each : ∀ i, i < len' → ∃ mk : Dd, a.block < W.heap.size ∧ (∀ j, j < 4 → W.cell? (a.add (i * 4 + j)) = (ddc mk)[j]?) ∧ PutAt W W.heap.size mk := by
      intro i hi
      obtain ⟨cs', h1, h2⟩ := hx i (by omega)
      rw [cells44] at h1
      have hwi : ∀ q ∈ (D i).weights Try.prog 44, q ≤ reachBytes := fun q hq => by
        refine hw q ?_
        rw [hd]
        simp only [DataW.weights, Try.underlying33]
        refine List.mem_cons_of_mem _ (List.mem_append_left _ (weights_all_mem hq _ ?_))
        exact List.mem_map.2 ⟨i, List.mem_range.2 hi, rfl⟩
      obtain ⟨mk, rfl, hp⟩ := open_deed h2 hwi
      obtain ⟨_, _, hcell⟩ := World.cells?_some h1
      refine ⟨mk, ?_, fun j hj => ?_, hp⟩
      · have e0 := hcell 0 (by omega)
        have := block_lt_of_cell (show W.cell? ((a.add (i * 4)).add 0) = some (.int .i64 mk.how) from e0)
        rwa [block_add', block_add'] at this
      · rw [← hcell j hj, Go.Proofs.Ytpfceochplghlaa.add_add']
    haveI : Inhabited Dd := ⟨dd0⟩
    obtain ⟨F, hF⟩ := choose_lt each
    refine ⟨some a, len', cap', (List.range len').map F, rfl, ⟨by simp, fun k hk => ⟨a, rfl, (hF k hk).1, ?_⟩⟩, hl, hm⟩
    have e : ((List.range len').map F).getD k dd0 = F k := by simp [List.getD, hk]
    rw [e]
    exact (hF k hk).2
end
end Go.Proofs.Ytpfceochplghlaa
