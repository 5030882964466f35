/- The reference's set: what a deed leaves, plain lemmas. -/
import Derived.Test.YtkibhinpbpgkeaaRa
namespace Go.Proofs.Ytkibhinpbpgkeaa
open Go.RowKit Go.ChangeMaps

theorem slice_from_h (A : Option Addr) (n c k : Nat) (hk : k ≤ n) (hc : n ≤ c) :
    ∃ A2, (∀ w, (Instr.slice 22 (.slice A n c) (some (.int .i64 (k : Int))) none none).run Try.prog w = .ok (.slice A2 (n - k) (c - k)) w) ∧
      Hid (∀ (W : World) (B : Nat) (xs : List Value), Rds W B 4 A n xs → Rds W B 4 A2 (n - k) (xs.drop (k * 4))) := slice_from A n c k hk hc
theorem ahead_w (a b : Mk) (v : Bool) (hv : Hid (lt a b = v)) (w : World) : Calls Try.prog 23 #[.agg #[.int .i64 a.id, .int .i64 a.fr, .int .i64 a.to, .int .i64 a.pr], .agg #[.int .i64 b.id, .int .i64 b.fr, .int .i64 b.to, .int .i64 b.pr]] w
    fun e w' => e = .returned (.bool v) ∧ Below w.heap.size w w' := by
  have h := hv.out; subst h; exact ahead_any a b w
theorem own_mid {w3 : World} {B n k p : Nat} {A3 : Option Addr} {K : List Mk} {m : Mk} (hi : ins K m = K.take k ++ m :: K.drop k)
    (ho : w3.ownsRow B 30 4 (.slice A3 (0 + k + 1 + (n - k)) p) (0 + k + 1 + (n - k)) ([] ++ cells4 (K.take k) ++ cells4 [m] ++ cells4 (K.drop k))) :
    w3.ownsRow B 30 4 (.slice A3 (k + 1 + (n - k)) p) (k + 1 + (n - k)) (cells4 (ins K m)) := by
  rw [hi, show K.take k ++ m :: K.drop k = K.take k ++ [m] ++ K.drop k from by simp, cells4_append, cells4_append]
  rwa [Nat.zero_add, List.nil_append] at ho
/-- The slice is written anew. -/
theorem ref_fin {W X w3 : World} {r n c n' p : Nat} {A A3 : Option Addr} {K L : List Mk} (h : RefIn W r A n c K) (hX : Below W.heap.size W X) (hY : Below X.heap.size X w3)
    (ho : w3.ownsRow X.heap.size 30 4 (.slice A3 n' p) n' (cells4 L)) (hn : L.length = n') : RefLeft W r A L (w3.setCell ⟨r, 0, none⟩ (.slice A3 n' p)) := by
  subst hn
  have hr := h.lt
  have z1 := hX.size
  have z2 := hY.size
  have hA : ∀ ad, A3 = some ad → X.heap.size ≤ ad.block := fun ad e => by subst e; exact (own_base ho).1
  have hc : Chg [r] W (w3.setCell ⟨r, 0, none⟩ (.slice A3 L.length p)) := (((Chg.of_below hX).trans (Chg.of_below hY)).mono (G := [r]) (F := []) (by simp)).setCell (.inl (by simp)) _
  have hf := own_cap ho
  refine ⟨A3, L.length, p, ⟨?_, ?_, hf.2.1, hf.2.2, fun ad e => by have := hA ad e; omega, fun ad e => by subst e; have := (own_base ho).2; simpa [World.setCell] using this⟩, fun ad e => .inr (by have := hA ad e; omega), hc⟩
  · exact heap_setCell_same w3 r 0 _ _ _ ((hY.block r (by omega)).trans ((hX.block r hr).trans h.top))
  · have h1 : RdM w3 w3.heap.size A3 L.length L := RdM.of_own ho (Below.refl _ _)
    have h2 := h1.chg (F := [r]) (((Chg.refl [r] w3).setCell (p := ⟨r, 0, none⟩) (.inl (by simp)) (.slice A3 L.length p))) (Nat.le_refl _) (fun ad e => by have := hA ad e; simp; omega)
    exact h2.more (by simp [World.setCell])
end Go.Proofs.Ytkibhinpbpgkeaa
