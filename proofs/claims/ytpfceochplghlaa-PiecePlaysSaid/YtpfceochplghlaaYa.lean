/- The walks of of, Text. -/
import Derived.Test.YtpfceochplghlaaS
import Derived.Test.YtpfceochplghlaaD
namespace Go.Proofs.Ytpfceochplghlaa
open Go.RowKit
attribute [local go_sem ↓] Go.wp_at_zero Go.wp_at_succ

theorem plen_take_le (L : List Pc) : ∀ k, plen (L.take k) ≤ plen L := by
  induction L with
  | nil => intro k; simp [plen]
  | cons p L ih =>
    intro k
    cases k with
    | zero => simp [plen]
    | succ k => rw [List.take_succ_cons, plen_cons, plen_cons]; have := ih k; omega
theorem pc_bound {T : Tb} (h : T.Ok) {p : Pc} (hp : p ∈ T.ps) : p.fr + p.ln ≤ (T.src p.add).length ∧ (T.src p.add).length ≤ 20000 := by
  have h1 := h.fits p hp
  have h2 := h.fst
  have h3 := h.add
  refine ⟨h1, ?_⟩
  unfold Tb.src
  split <;> omega
theorem pc_len {T : Tb} (h : T.Ok) {p : Pc} (hp : p ∈ T.ps) : (T.pc p).length = p.ln := by
  have h1 := h.fits p hp
  unfold Tb.pc
  rw [List.length_take, List.length_drop]
  omega

/-- A view of a table's text. -/
theorem view_at {w : World} {A : Option Addr} {n c f l : Nat} {xs : List Int} (h : w.ownsRow 0 21 1 (.slice A n c) n (xs.map (Value.int .i32))) (hl : f + l ≤ n) :
    ∃ A2, (∀ W, (Instr.slice 23 (.slice A n c) (some (.int .i64 (f : Int))) (some (.int .i64 ((f : Int) + (l : Int)))) none).run Try.prog W = .ok (.slice A2 l (c - f)) W) ∧ Rds w w.heap.size 1 A2 l (((xs.drop f).take l).map (Value.int .i32)) := by
  have hc := (own_cap h).2.1
  obtain ⟨A2, hs, hr⟩ := slice_mid A n c f (f + l) (by omega) hl hc
  have e : f + l - f = l := by omega
  refine ⟨A2, fun W => ?_, ?_⟩
  · have h1 := hs W
    rw [e, show (((f + l : Nat)) : Int) = (f : Int) + (l : Int) from by omega] at h1
    exact h1
  · have h1 := hr w w.heap.size _ (Rds.of_own h)
    rw [e, ← List.map_drop, ← List.map_take] at h1
    exact h1

set_option maxHeartbeats 400000 in
theorem of_any (W : World) (t : Nat) (F : List Nat) (T : Tb) (b : Bool) (f l : Nat) (h : TabIn W t F T) (hp : (⟨b, f, l⟩ : Pc) ∈ T.ps) :
    Calls Try.prog 45 #[.pointer (some ⟨t, 0, none⟩), .agg #[.bool b, .int .i64 f, .int .i64 l]] W fun e w' => ∃ A c, e = .returned (.slice A l c) ∧ Rds w' W.heap.size 1 A l ((T.pc ⟨b, f, l⟩).map (Value.int .i32)) ∧ Below W.heap.size W w' := by
  have hbd := pc_bound h.ok hp
  obtain ⟨A0, n0, c0, A1, n1, c1, A2, n2, c2, hat, hFF, _⟩ := h
  obtain ⟨z0, z1, z2, z3⟩ := hat.cells
  obtain ⟨l0, l1, l2⟩ := hat.lens
  have htl := hat.lt t (by simp)
  have hwf : IntKind.i64.wrap ((f : Int) + (l : Int)) = (f : Int) + (l : Int) := IntWalk.i64_in _ (by simp only at hbd; omega)
  cases b with
  | true =>
    have hfl : f + l ≤ n1 := by have h1 := hbd.1; simp only [Tb.src, if_true] at h1; omega
    obtain ⟨A3, hs, hr⟩ := view_at hat.r1 hfl
    have HR := Lib.hid hr
    have e : T.pc ⟨true, f, l⟩ = (T.add.drop f).take l := rfl
    rw [e]
    clear hr hbd l0 l1 l2 z0 z2 z3 hat hp hfl
    go_enter Try.func45, Try.ntmps45
    go_wp2
    go_region
    all_goals
      go_wp2
      go_ret
      exact ⟨_, _, rfl, HR.out.below (((Below.refl _ _).alloc (Nat.le_refl _) _).drew), ((Below.refl _ _).alloc (Nat.le_refl _) _).drew⟩
  | false =>
    have hfl : f + l ≤ n0 := by have h1 := hbd.1; simp only [Tb.src, Bool.false_eq_true, if_false] at h1; omega
    obtain ⟨A3, hs, hr⟩ := view_at hat.r0 hfl
    have HR := Lib.hid hr
    have e : T.pc ⟨false, f, l⟩ = (T.fst.drop f).take l := rfl
    rw [e]
    clear hr hbd l0 l1 l2 z1 z2 z3 hat hp hfl
    go_enter Try.func45, Try.ntmps45
    go_wp2
    go_region
    all_goals
      go_wp2
      go_ret
      exact ⟨_, _, rfl, HR.out.below (((Below.refl _ _).alloc (Nat.le_refl _) _).drew), ((Below.refl _ _).alloc (Nat.le_refl _) _).drew⟩
end Go.Proofs.Ytpfceochplghlaa
