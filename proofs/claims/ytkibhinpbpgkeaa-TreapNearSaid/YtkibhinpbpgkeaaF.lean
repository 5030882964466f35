/- The map of a set: int keys, marks: what each operation answers. -/
import Derived.Test.YtkibhinpbpgkeaaE
import Derived.Maps.OwnSet
namespace Go.Proofs.Ytkibhinpbpgkeaa
open Go.RowKit Go.ChangeMaps

/-- A mark's value. -/
abbrev mv (m : Mk) : Value := .agg #[.int .i64 m.id, .int .i64 m.fr, .int .i64 m.to, .int .i64 m.pr]
/-- What an entry's key and value are. -/
def enk (m : Mk) : Value × Value := (.int .i64 m.id, mv m)
/-- Block b is a map of the marks K. -/
def MapIs (w : World) (b : Nat) (K : List Mk) : Prop :=
  ∃ (es : Array MapEntry) (ck : Nat) (L : List Mk), w.heap[b]? = some (.map es ck) ∧ es.toList.map (fun e => (e.key, e.val)) = L.map enk ∧ L.Perm K

theorem same_int (i j : Int) : Instr.sameNow (.int .i64) (.int .i64 i) (.int .i64 j) = some (i == j) := by simp [Instr.sameNow]
theorem find_none (i : Int) : ∀ (L : List Mk) (es : List MapEntry) (n : Nat), es.map (fun e => (e.key, e.val)) = L.map enk → (∀ x ∈ L, x.id ≠ i) → Instr.findNow (.int .i64) (.int .i64 i) es n = some none
  | [], es, n, h, _ => by
    cases es with
    | nil => rfl
    | cons => simp at h
  | m :: L, es, n, h, hn => by
    cases es with
    | nil => simp at h
    | cons e es =>
      simp only [List.map_cons, List.cons.injEq, enk, Prod.mk.injEq] at h
      obtain ⟨⟨h1, h2⟩, h3⟩ := h
      have hne : (i == m.id) = false := by
        have := hn m (by simp)
        simp
        omega
      unfold Instr.findNow
      rw [h1, same_int, hne]
      exact find_none i L es (n + 1) h3 fun x hx => hn x (by simp [hx])
theorem find_some (m : Mk) (B : List Mk) : ∀ (A : List Mk) (es : List MapEntry) (n : Nat), es.map (fun e => (e.key, e.val)) = (A ++ m :: B).map enk → (∀ x ∈ A, x.id ≠ m.id) → Instr.findNow (.int .i64) (.int .i64 m.id) es n = some (some (n + A.length, mv m))
  | [], es, n, h, _ => by
    cases es with
    | nil => simp at h
    | cons e es =>
      simp only [List.nil_append, List.map_cons, List.cons.injEq, enk, Prod.mk.injEq] at h
      obtain ⟨⟨h1, h2⟩, h3⟩ := h
      unfold Instr.findNow
      rw [h1, same_int]
      simp [h2]
  | x :: A, es, n, h, hn => by
    cases es with
    | nil => simp at h
    | cons e es =>
      simp only [List.cons_append, List.map_cons, List.cons.injEq, enk, Prod.mk.injEq] at h
      obtain ⟨⟨h1, h2⟩, h3⟩ := h
      have hne : (m.id == x.id) = false := by
        have := hn x (by simp)
        simp
        omega
      unfold Instr.findNow
      rw [h1, same_int, hne]
      have h := find_some m B A es (n + 1) h3 fun y hy => hn y (by simp [hy])
      rw [show n + (x :: A).length = n + 1 + A.length from by simp; omega]
      exact h
theorem ids_perm {L K : List Mk} (h : L.Perm K) (hK : Ids K) : Ids L := (h.pairwise_iff (fun {_ _} hne => Ne.symm hne)).2 hK
theorem ids_split {A B : List Mk} {m : Mk} (h : Ids (A ++ m :: B)) : (∀ x ∈ A, x.id ≠ m.id) ∧ (∀ x ∈ B, x.id ≠ m.id) ∧ Ids (A ++ B) := by
  unfold Ids at h ⊢
  simp only [List.pairwise_append, List.pairwise_cons, List.mem_cons] at h ⊢
  exact ⟨fun x hx => h.2.2 x hx m (.inl rfl), fun x hx => Ne.symm (h.2.1.1 x hx), h.1, h.2.1.2, fun a ha b hb => h.2.2 a ha b (.inr hb)⟩

theorem u53 : Try.prog.underlying 53 = some (.map 3 30) := by kernel_rfl
theorem u3 : Try.prog.underlying 3 = some (.int .i64) := by kernel_rfl
theorem zero30 (w : World) : (zeroValue 30).run Try.prog w = .ok (mv ⟨0, 0, 0, 0⟩) w := by kernel_rfl
theorem key_ok (i : Int) (w : World) (e : Bool) : (Instr.checkKey e 10000 3 (.int .i64 i)).run Try.prog w = .ok () w := MapKept.run_checkKey u3 (by simp [MapKept.IsKey]) e 9999

section
variable {w : World} {b : Nat} {K : List Mk}
theorem MapIs.lt (h : MapIs w b K) : b < w.heap.size := by
  obtain ⟨_, _, _, hb, _⟩ := h
  exact heap_lt hb
theorem MapIs.keep {w' : World} (h : MapIs w b K) (hk : w'.heap[b]? = w.heap[b]?) : MapIs w' b K := by
  obtain ⟨es, ck, L, hb, r⟩ := h
  exact ⟨es, ck, L, hk.trans hb, r⟩
theorem MapIs.perm {K' : List Mk} (h : MapIs w b K) (hk : K.Perm K') : MapIs w b K' := by
  obtain ⟨es, ck, L, hb, h1, h2⟩ := h
  exact ⟨es, ck, L, hb, h1, h2.trans hk⟩
theorem MapIs.made (w : World) : MapIs (w.alloc (.map #[] 0)) w.heap.size [] := ⟨#[], 0, [], heap_new _ _, rfl, .refl _⟩

theorem MapIs.hit (h : MapIs w b K) (hid : Ids K) {m : Mk} (hm : m ∈ K) :
    (Instr.lookup 53 (.map (some b)) (.int .i64 m.id) true).run Try.prog w = .ok (.tuple #[mv m, .bool true]) w ∧ (Instr.lookup 53 (.map (some b)) (.int .i64 m.id) false).run Try.prog w = .ok (mv m) w := by
  obtain ⟨es, ck, L, hb, h1, h2⟩ := h
  obtain ⟨A, B, rfl⟩ := List.append_of_mem (h2.mem_iff.2 hm)
  have hs := ids_split (ids_perm h2 hid)
  have hf := MapKept.run_findKey (w := w) u3 (find_some m B A es.toList 0 h1 hs.1)
  constructor <;> simp [Instr.lookup, run_underlying u53, MapKept.run_getObj_map hb, key_ok, hf, Result.andThen]
theorem MapIs.miss (h : MapIs w b K) {i : Int} (hm : ∀ x ∈ K, x.id ≠ i) :
    (Instr.lookup 53 (.map (some b)) (.int .i64 i) true).run Try.prog w = .ok (.tuple #[mv ⟨0, 0, 0, 0⟩, .bool false]) w := by
  obtain ⟨es, ck, L, hb, h1, h2⟩ := h
  have hf := MapKept.run_findKey (w := w) u3 (find_none i L es.toList 0 h1 fun x hx => hm x (h2.mem_iff.1 hx))
  simp [Instr.lookup, run_underlying u53, MapKept.run_getObj_map hb, key_ok, hf, Result.andThen]
theorem Chg.block_set {es es' : Array MapEntry} {ck ck' : Nat} (hb : w.heap[b]? = some (.map es ck)) : Chg [b] w (setBlock w b (.map es' ck')) :=
  ⟨rfl, rfl, rfl, by simp [setBlock], fun k _ hk => heap_setBlock_other hb _ (by simpa using hk)⟩
theorem MapIs.push (h : MapIs w b K) {m : Mk} (hm : ∀ x ∈ K, x.id ≠ m.id) :
    ∃ w', (Instr.mapUpdate 53 (.map (some b)) (.int .i64 m.id) (mv m)).run Try.prog w = .ok () w' ∧ MapIs w' b (m :: K) ∧ Chg [b] w w' := by
  obtain ⟨es, ck, L, hb, h1, h2⟩ := h
  have hf := MapKept.run_findKey (w := w) u3 (find_none m.id L es.toList 0 h1 fun x hx => hm x (h2.mem_iff.1 hx))
  refine ⟨setBlock w b (.map (es.push { key := .int .i64 m.id, val := mv m, born := ck }) (ck + 1)), ?_, ⟨_, _, L ++ [m], heap_setBlock_same hb _, ?_, ?_⟩, Chg.block_set hb⟩
  · simp [Instr.mapUpdate, run_underlying u53, MapKept.run_getObj_map hb, key_ok, hf, MapKept.run_setObj_map _ hb, Result.andThen, setBlock]
  · simp [h1, enk]
  · exact List.perm_append_comm.trans (h2.cons m)
theorem MapIs.over (h : MapIs w b K) (hid : Ids K) {m m' : Mk} (hm : m ∈ K) (he : m'.id = m.id) :
    ∃ w', (Instr.mapUpdate 53 (.map (some b)) (.int .i64 m.id) (mv m')).run Try.prog w = .ok () w' ∧ MapIs w' b (m' :: del K m.id) ∧ Chg [b] w w' := by
  obtain ⟨es, ck, L, hb, h1, h2⟩ := h
  obtain ⟨A, B, rfl⟩ := List.append_of_mem (h2.mem_iff.2 hm)
  have hs := ids_split (ids_perm h2 hid)
  have hf := MapKept.run_findKey (w := w) u3 (find_some m B A es.toList 0 h1 hs.1)
  have hj : ∃ e, es[A.length]? = some e ∧ e.key = .int .i64 m.id := by
    have e1 : (es.toList.map (fun e => (e.key, e.val)))[A.length]? = some (enk m) := by rw [h1]; simp
    rw [List.getElem?_map, Option.map_eq_some_iff] at e1
    obtain ⟨e, he, hk⟩ := e1
    exact ⟨e, by simpa using he, congrArg Prod.fst hk⟩
  obtain ⟨e, hj, hke⟩ := hj
  refine ⟨setBlock w b (.map (es.modify A.length fun e => { e with key := .int .i64 m.id, val := mv m' }) ck), ?_, ⟨_, _, A ++ m' :: B, heap_setBlock_same hb _, ?_, ?_⟩, Chg.block_set hb⟩
  · have hst : (Instr.keyThatStays (.int .i64 m.id) (.int .i64 m.id)).run Try.prog w = .ok (.int .i64 m.id) w := MapKept.run_keyThatStays (d := .int .i64) rfl
    simp [Instr.mapUpdate, run_underlying u53, MapKept.run_getObj_map hb, key_ok, hf, hj, hke, hst, MapKept.run_setObj_map _ hb, Result.andThen, setBlock]
  · apply List.ext_getElem?
    intro i
    have h1i : (es.toList.map (fun e => (e.key, e.val)))[i]? = ((A ++ m :: B).map enk)[i]? := by rw [h1]
    rw [Array.toList_modify, List.getElem?_map, List.getElem?_modify]
    rw [List.getElem?_map] at h1i
    by_cases hi : A.length = i
    · subst hi
      simp [hj, enk, he]
    · simp only [if_neg hi]
      rw [show ((fun a : MapEntry => a) <$> es.toList[i]?) = es.toList[i]? from by cases es.toList[i]? <;> rfl]
      have e2 : ((A ++ m' :: B).map enk)[i]? = ((A ++ m :: B).map enk)[i]? := by
        simp only [List.getElem?_map, List.getElem?_append, List.getElem?_cons]
        split
        · rfl
        · rw [if_neg (by omega), if_neg (by omega)]
      rw [e2]
      exact h1i
  · have e3 : (A ++ m' :: B).Perm (m' :: (A ++ B)) := List.perm_middle
    refine e3.trans (List.Perm.cons m' ?_)
    have e4 : (del (A ++ m :: B) m.id).Perm (del K m.id) := h2.filter _
    rwa [del_append, del_cons_eq _ _ _ rfl, del_none _ _ hs.1, del_none _ _ hs.2.1] at e4
theorem MapIs.drop (h : MapIs w b K) (hid : Ids K) {m : Mk} (hm : m ∈ K) :
    ∃ w', (∀ ty, (Builtin.delete_ #[53, 3] ty #[.map (some b), .int .i64 m.id]).run Try.prog w = .ok (.tuple #[]) w') ∧ MapIs w' b (del K m.id) ∧ Chg [b] w w' := by
  obtain ⟨es, ck, L, hb, h1, h2⟩ := h
  obtain ⟨A, B, rfl⟩ := List.append_of_mem (h2.mem_iff.2 hm)
  have hs := ids_split (ids_perm h2 hid)
  have hf := MapKept.run_findKey (w := w) u3 (find_some m B A es.toList 0 h1 hs.1)
  have hlen : es.size = (A ++ m :: B).length := by
    have := congrArg List.length h1
    simpa using this
  have hjs : A.length < es.size := by rw [hlen]; simp
  have hsub : (es.eraseIdxIfInBounds A.length).toList = es.toList.eraseIdx A.length := by
    unfold Array.eraseIdxIfInBounds
    rw [dif_pos hjs]
    simp
  refine ⟨setBlock w b (.map (es.eraseIdxIfInBounds A.length) ck), ?_, ⟨_, _, A ++ B, heap_setBlock_same hb _, ?_, ?_⟩, Chg.block_set hb⟩
  · intro ty; simp [Builtin.delete_, run_underlying u53, MapKept.run_getObj_map hb, key_ok, hf, MapKept.run_setObj_map _ hb, Result.andThen, setBlock]
  · rw [hsub, List.eraseIdx_eq_take_drop_succ, List.map_append, List.map_take, List.map_drop, h1]
    simp [List.drop_append]
  · have e4 : (del (A ++ m :: B) m.id).Perm (del K m.id) := h2.filter _
    rwa [del_append, del_cons_eq _ _ _ rfl, del_none _ _ hs.1, del_none _ _ hs.2.1] at e4
theorem MapIs.len (h : MapIs w b K) (ty : TypeId) : (Builtin.len_ #[53] ty #[.map (some b)]).run Try.prog w = .ok (.int .i64 K.length) w := by
  obtain ⟨es, ck, L, hb, h1, h2⟩ := h
  have hlen : es.size = K.length := by
    have := congrArg List.length h1
    rw [← h2.length_eq]
    simpa using this
  rw [← hlen]
  simp [Builtin.len_, run_underlying u53, MapKept.run_getObj_map hb, goInt, Result.andThen]
end
end Go.Proofs.Ytkibhinpbpgkeaa
