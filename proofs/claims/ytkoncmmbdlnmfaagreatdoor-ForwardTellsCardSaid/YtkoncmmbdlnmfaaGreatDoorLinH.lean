/- lines.Parse: what its walk asks: lines, entries, a map of texts, what stays. -/
import Derived.Test.YtkoncmmbdlnmfaaGreatDoorLinG
import Derived.Test.YtkoncmmbdlnmfaaGreatDoorMapE
namespace Go.Proofs.YtkoncmmbdlnmfaaGreatDoor
open Go.RowKit Go.Lib
set_option linter.unusedSimpArgs false
set_option linter.unusedVariables false
set_option linter.unnecessarySimpa false
set_option maxRecDepth 100000

/-! ### plain -/
theorem log_len_all : ∀ (ps : List (List UInt8)) (k : Nat) (st : List Sd × Bool) (N : Nat), (∀ y ∈ st.1, y.2.1.length + (ps.map (fun p => p.length + 1)).sum ≤ N) → (ps.map (fun p => p.length + 1)).sum ≤ N → ∀ y ∈ (logGo ps k st).1, y.2.1.length ≤ N
  | [], k, st, N, h, _ => fun y hy => by have := h y hy; simpa using this
  | x :: ps, k, st, N, h, h0 => by
    rw [List.map_cons, List.sum_cons] at h h0
    refine log_len_all ps (k + 1) (logStep st k x) N (log_bound st k x _ N h h0) (by omega)
theorem logical_len (s : List UInt8) : ∀ y ∈ logicalL s, y.2.1.length ≤ s.length + 1 :=
  log_len_all _ 0 _ _ (fun y hy => by cases hy) (by rw [pieces_sum]; omega)
theorem log_count : ∀ (ps : List (List UInt8)) (k : Nat) (st : List Sd × Bool), (logGo ps k st).1.length ≤ st.1.length + ps.length
  | [], k, st => by simp [logGo]
  | x :: ps, k, st => by
    have h1 := log_count ps (k + 1) (logStep st k x)
    have h2 := log_many st k x
    simp only [logGo, List.length_cons]
    omega
theorem logical_count (s : List UInt8) : (logicalL s).length ≤ s.length + 1 := by
  have h1 := log_count (pieces 10 s) 0 ([], false)
  have h2 := pieces_len 10 s
  show (logGo (pieces 10 s) 0 ([], false)).1.length ≤ _
  simp only [List.length_nil] at h1
  omega
theorem ent_snoc : ∀ (a : List Sd) (x : Sd) (st : Es), entGo (a ++ [x]) st = entStep (entGo a st) x
  | [], x, st => rfl
  | y :: a, x, st => by
    show entGo (a ++ [x]) (entStep st y) = _
    rw [ent_snoc a x]
    rfl
theorem ent_at {L : List Sd} {i : Nat} {x : Sd} (h : L[i]? = some x) : entGo (L.take (i + 1)) ([], []) = entStep (entGo (L.take i) ([], [])) x := by
  have e : L.take (i + 1) = L.take i ++ [x] := by rw [List.take_add_one, h]; rfl
  rw [e, ent_snoc]
theorem ent_ok (st : Es) (x : Sd) : entStep st x = if entOk x = false then (st.1, st.2 ++ [(x.1, 5)]) else if 64 ≤ st.1.length then (st.1, st.2 ++ [(x.1, 7)]) else if (st.1.any fun y => lowL y.2 == lowL x.2.1) = true then (st.1, st.2 ++ [(x.1, 9)]) else (st.1 ++ [(x.1, x.2.1)], st.2) := by
  unfold entStep entOk
  cases x.2.2 <;> cases printL x.2.1 <;> cases x.2.1.contains 34 <;> simp
theorem ent_count (st : Es) (x : Sd) : (entStep st x).1.length ≤ 64 ∨ (entStep st x).1.length ≤ st.1.length := by
  unfold entStep
  split
  · exact .inr (Nat.le_refl _)
  · split
    · exact .inr (Nat.le_refl _)
    · split
      · exact .inr (Nat.le_refl _)
      · left
        simp only [List.length_append, List.length_singleton]
        omega
theorem lower_low (l : List UInt8) : Lib.toLowerA l = lowL l := by
  unfold Lib.toLowerA lowL
  apply List.map_congr_left
  intro b _
  have := byte_all (fun b => Lib.lowerB b == lowB b) (by decide) b
  simpa using this
theorem print_ascii {t : List UInt8} (h : printL t = true) : ∀ (j : Nat) (b : UInt8), t[j]? = some b → b.toNat < 128 := by
  intro j b hb
  unfold printL at h
  rw [List.all_eq_true] at h
  have := h b (List.mem_of_getElem? hb)
  have h2 := byte_all (fun b => !(b == 9 || plainB b.toNat) || decide (b.toNat < 128)) (by decide) b
  rw [this] at h2
  simpa using h2
/-! ### what stays while a map and rows of one's own turn -/
structure Save (mb : Nat) (w W : World) : Prop where
  os : W.os = w.os
  tape : W.tape = w.tape
  out : W.output = w.output
  size : w.heap.size ≤ W.heap.size
  block : ∀ j, j < w.heap.size → j ≠ mb → W.heap[j]? = w.heap[j]?
theorem Save.refl (mb : Nat) (w : World) : Save mb w w := ⟨rfl, rfl, rfl, Nat.le_refl _, fun _ _ _ => rfl⟩
theorem Save.below {mb : Nat} {w W W' : World} (h : Save mb w W) (hb : Below W.heap.size W W') : Save mb w W' :=
  ⟨hb.os.trans h.os, hb.tape.trans h.tape, hb.output.trans h.out, Nat.le_trans h.size hb.size, fun j hj hm => (hb.block j (Nat.lt_of_lt_of_le hj h.size)).trans (h.block j hj hm)⟩
theorem Save.grown {mb : Nat} {w W W' : World} {row : Option Nat} (h : Save mb w W) (hg : W.grownBy W' row) (hr : ∀ g, row = some g → g = mb ∨ w.heap.size ≤ g) : Save mb w W' :=
  ⟨hg.os.trans h.os, hg.tape.trans h.tape, hg.output.trans h.out, Nat.le_trans h.size hg.size, fun j hj hm => (hg.block j (Nat.lt_of_lt_of_le hj h.size) (fun e => by
    rcases hr j e.symm with h1 | h1
    · exact hm h1
    · omega)).trans (h.block j hj hm)⟩
theorem Save.low {mb B : Nat} {w W : World} (h : Save mb w W) (h1 : B ≤ mb) (h2 : B ≤ w.heap.size) : Below B w W :=
  ⟨h.os, h.tape, h.out, h.size, fun j hj => h.block j (by omega) (by omega)⟩
theorem Save.grow {α : Type} {k : Nat} {C : α → List Value} {mb : Nat} {w W : World} {v : Value} {l : List α} (hk : ∀ x, (C x) ≠ []) (h : GRow k C w v l) (hs : Save mb w W) (hm : ∀ x, w.cell? ⟨mb, x, none⟩ = none) : GRow k C W v l := by
  obtain ⟨p, cap, hv, h⟩ := h
  refine ⟨p, cap, hv, ?_⟩
  rcases h with h | ⟨b, o, hp, hlt, h⟩
  · exact .inl h
  · cases l with
    | nil => exact .inl rfl
    | cons x l =>
      have hb : b ≠ mb := by
        rintro rfl
        obtain ⟨u, us, hu⟩ := List.exists_cons_of_ne_nil (hk x)
        have := h 0 x rfl 0 u (by rw [hu]; rfl)
        rw [hm] at this
        cases this
      refine .inr ⟨b, o, hp, Nat.lt_of_lt_of_le hlt hs.size, fun i x hx j u hu => ?_⟩
      exact (World.cell?_of_block (w := w) (hs.block b hlt hb)).trans (h i x hx j u hu)
theorem map_cell {w : World} {mb : Nat} {es : Array MapEntry} {c : Nat} (h : w.heap[mb]? = some (.map es c)) : ∀ x, w.cell? ⟨mb, x, none⟩ = none := fun x => by simp [World.cell?, h]
/-! ### a map from texts to numbers that says which texts are there -/
theorem own_isMap {H : Type} {P : Program} {w : World} {k b n : Nat} {R : Value → Option (DataW H × List MemPlace)} {D : DataW H} (h : w.ownsMap P k R b n D) : Maps.IsMap D := by
  obtain ⟨es, clock, _, _, _, hD⟩ := h
  exact ⟨_, hD⟩
theorem map_low {H : Type} {P : Program} {w W : World} {k b n : Nat} {R : Value → Option (DataW H × List MemPlace)} {D : DataW H} (h : w.ownsMap P k R b n D) (hb : Below w.heap.size w W) : W.ownsMap P k R b n D := by
  have hl := h.lt
  obtain ⟨es, clock, h1, h2⟩ := h
  exact ⟨es, clock, (hb.block b hl).trans h1, h2⟩
theorem map_cells {H : Type} {P : Program} {w : World} {k b n : Nat} {R : Value → Option (DataW H × List MemPlace)} {D : DataW H} (h : w.ownsMap P k R b n D) : ∀ x, w.cell? ⟨b, x, none⟩ = none := by
  obtain ⟨es, clock, h1, _⟩ := h
  exact map_cell h1
def KeysD (D : DataW Unit) (f : List UInt8 → Bool) : Prop := ∀ k, D.atKey (.string k) (.lit (.int .i64 0)) = .lit (.int .i64 (if f k = true then 1 else 0))
theorem KeysD.start : KeysD (.map []) (fun _ => false) := fun k => rfl
theorem KeysD.put {D : DataW Unit} {f g : List UInt8 → Bool} (h : KeysD D f) (hD : Maps.IsMap D) (x : List UInt8) (hg : ∀ k, g k = (f k || k == x)) : KeysD (D.put (.string x) (.lit (.int .i64 1))) g := by
  intro k
  rw [hg]
  by_cases hk : k = x
  · subst hk
    rw [Maps.atKey_put_same (k := Lit.string k) hD (by simp [WideAt.IsKeyLit])]
    simp
  · rw [Maps.atKey_put_other (by intro e; injection e with e; exact hk e), h k]
    simp [hk]
theorem law9 : Maps.Keyed Tryz.prog 9 := Maps.string_keyed Tryz.underlying9
theorem zero3 (w : World) : (zeroValue 3).run Tryz.prog w = .ok (.int .i64 0) w := by kernel_rfl
theorem info85 : (Tryz.prog.info? 85).map (fun i => (i.zero, i.size, i.bytes)) = some (some (.agg #[.int .i64 0, .string ⟨#[]⟩, .slice none 0 0]), 3, 48) := by kernel_rfl
theorem info81 : (Tryz.prog.info? 81).map (fun i => (i.zero, i.size, i.bytes)) = some (some (.agg #[.int .i64 0, .int .i64 0]), 2, 16) := by kernel_rfl
end Go.Proofs.YtkoncmmbdlnmfaaGreatDoor
