/- What the walks of CodingJoins and CodingBack ask for: a map of three numbers, a copy of bytes, bytes appended to a copy; no condition but what each theorem states. -/
import Derived.Test.YthnohioamefbmaaDoorConv
import Derived.Test.YthnohioamefbmaaDoorPureE
import Derived.Maps.Own
import Derived.Laws.OwnMore
namespace Go.Proofs.YthnohioamefbmaaDoor
open Go.RowKit Go.Lib Go.Maps
set_option linter.unusedSimpArgs false
set_option linter.unusedVariables false

theorem i64_keyed : Keyed Tryd.prog 3 := int_keyed Tryd.underlying3
theorem zero3 (w : World) : (zeroValue 3).run Tryd.prog w = .ok (.int .i64 0) w := by kernel_rfl
def Looks (M : Nat) (x5 x6 x4 : Int) (W : World) : Prop :=
  (Instr.lookup 43 (.map (some M)) (.int .i64 5) false).run Tryd.prog W = .ok (.int .i64 x5) W ∧ (Instr.lookup 43 (.map (some M)) (.int .i64 6) false).run Tryd.prog W = .ok (.int .i64 x6) W ∧ (Instr.lookup 43 (.map (some M)) (.int .i64 4) false).run Tryd.prog W = .ok (.int .i64 x4) W
theorem three_map (w : World) (x5 x6 x4 : Int) (h5 : (Lit.int .i64 x5).wf = true) (h6 : (Lit.int .i64 x6).wf = true) (h4 : (Lit.int .i64 x4).wf = true) :
    ∃ w1 w2 w3, (Instr.mapUpdate 43 (.map (some w.heap.size)) (.int .i64 5) (.int .i64 x5)).run Tryd.prog (w.alloc (.map #[] 0)) = .ok () w1 ∧
      (Instr.mapUpdate 43 (.map (some w.heap.size)) (.int .i64 6) (.int .i64 x6)).run Tryd.prog w1 = .ok () w2 ∧
      (Instr.mapUpdate 43 (.map (some w.heap.size)) (.int .i64 4) (.int .i64 x4)).run Tryd.prog w2 = .ok () w3 ∧ Below w.heap.size w w3 ∧ w.heap.size < w3.heap.size ∧
      (∀ W : World, W.heap[w.heap.size]? = w3.heap[w.heap.size]? → Looks w.heap.size x5 x6 x4 W) := by
  have k5 : keyOf Tryd.prog 3 (.int .i64 5) = some (.int .i64 5) := keyOf_int_mk Tryd.underlying3 (by decide)
  have k6 : keyOf Tryd.prog 3 (.int .i64 6) = some (.int .i64 6) := keyOf_int_mk Tryd.underlying3 (by decide)
  have k4 : keyOf Tryd.prog 3 (.int .i64 4) = some (.int .i64 4) := keyOf_int_mk Tryd.underlying3 (by decide)
  have h0 := World.ownsMap_made (H := Unit) w Tryd.prog 3 (plainElem Tryd.prog 3)
  obtain ⟨w1, r1, o1, g1⟩ := h0.update i64_keyed Tryd.underlying43 (by decide) k5 (plainElem_int Tryd.underlying3 h5)
  obtain ⟨w2, r2, o2, g2⟩ := o1.update i64_keyed Tryd.underlying43 (by decide) k6 (plainElem_int Tryd.underlying3 h6)
  obtain ⟨w3, r3, o3, g3⟩ := o2.update i64_keyed Tryd.underlying43 (by decide) k4 (plainElem_int Tryd.underlying3 h4)
  refine ⟨w1, w2, w3, r1, r2, r3, ?_, ?_, ?_⟩
  · have b0 := alloc_below w (.map #[] 0)
    have b1 := b0.grown g1 (by simp) (by intro k hk; simp at hk; omega)
    have b2 := b1.grown g2 b1.size (by intro k hk; simp at hk; omega)
    exact b2.grown g3 b2.size (by intro k hk; simp at hk; omega)
  · have s1 := g1.size
    have s2 := g2.size
    have s3 := g3.size
    rw [World.size_alloc] at s1
    omega
  · intro W hW
    obtain ⟨es, clock, hb, F, hs, hD⟩ := o3
    have oW : W.ownsMap Tryd.prog 3 (plainElem Tryd.prog 3) w.heap.size 3 (((DataW.map []).put (.int .i64 5) (.lit (.int .i64 x5)) : DataW Unit).put (.int .i64 6) (.lit (.int .i64 x6)) |>.put (.int .i64 4) (.lit (.int .i64 x4))) := ⟨es, clock, hW.trans hb, F, hs, hD⟩
    refine ⟨?_, ?_, ?_⟩
    · obtain ⟨c, hrun, hat, _⟩ := oW.lookup_int i64_keyed Tryd.underlying43 Tryd.underlying3 (zero3 W) k5
      have e : ((((DataW.map []).put (.int .i64 5) (.lit (.int .i64 x5)) : DataW Unit).put (.int .i64 6) (.lit (.int .i64 x6))).put (.int .i64 4) (.lit (.int .i64 x4))).atKey (.int .i64 5) (.lit (.int .i64 0)) = .lit (.int .i64 x5) := rfl
      rw [e] at hat
      simp only [DataW.lit.injEq, Lit.int.injEq, true_and] at hat
      rw [hat]; exact hrun
    · obtain ⟨c, hrun, hat, _⟩ := oW.lookup_int i64_keyed Tryd.underlying43 Tryd.underlying3 (zero3 W) k6
      have e : ((((DataW.map []).put (.int .i64 5) (.lit (.int .i64 x5)) : DataW Unit).put (.int .i64 6) (.lit (.int .i64 x6))).put (.int .i64 4) (.lit (.int .i64 x4))).atKey (.int .i64 6) (.lit (.int .i64 0)) = .lit (.int .i64 x6) := rfl
      rw [e] at hat
      simp only [DataW.lit.injEq, Lit.int.injEq, true_and] at hat
      rw [hat]; exact hrun
    · obtain ⟨c, hrun, hat, _⟩ := oW.lookup_int i64_keyed Tryd.underlying43 Tryd.underlying3 (zero3 W) k4
      have e : ((((DataW.map []).put (.int .i64 5) (.lit (.int .i64 x5)) : DataW Unit).put (.int .i64 6) (.lit (.int .i64 x6))).put (.int .i64 4) (.lit (.int .i64 x4))).atKey (.int .i64 4) (.lit (.int .i64 0)) = .lit (.int .i64 x4) := rfl
      rw [e] at hat
      simp only [DataW.lit.injEq, Lit.int.injEq, true_and] at hat
      rw [hat]; exact hrun

/-- a copy of bytes: a row of the call's own. -/
theorem clone_any (v : Value) (l : List Nat) (w : World) (h : Bytes w v l) (hl : l.length ≤ 100000) :
    Calls Tryd.prog 18 #[v] w fun e w' => ∃ v', e = .returned v' ∧ w'.ownsRow w.heap.size 5 1 v' l.length (l.map fun (c : Nat) => Value.int .u8 (c : Int)) ∧ Below w.heap.size w w' := by
  obtain ⟨p, cap, rfl, hh⟩ := h
  cases p with
  | none =>
    have hl0 : l = [] := by
      rcases hh with h | ⟨b, o, he, _⟩
      · exact h
      · cases he
    subst hl0
    refine (Tryd.bytes_Clone_nil _ _ w).mono ?_
    rintro e w' ⟨rfl, rfl⟩
    exact ⟨_, rfl, World.ownsRow_nil _ _ _ _, Below.refl _ _⟩
  | some a =>
    refine (Tryd.bytes_Clone_at a l.length cap (l.map fun (c : Nat) => (c : Int)) w (by simp) (by omega) ?_).mono ?_
    · intro i hi
      rcases hh with h | ⟨b, o, he, _, hc⟩
      · subst h; simp at hi
      · cases he
        have e : (⟨b, o, none⟩ : Addr).add i = ⟨b, o + i, none⟩ := by unfold Addr.add; split <;> simp_all
        rw [e, hc i hi]
        simp [List.getD_eq_getElem?_getD, hi]
    · rintro e w' ⟨v', rfl, hown, _, hb⟩
      refine ⟨v', rfl, ?_, hb⟩
      simpa [List.map_map, Function.comp_def] using hown
/-- bytes appended to a row of the call's own. -/
theorem append_any (w : World) (B : Nat) (v : Value) (out l : List Nat) (hown : w.ownsRow B 5 1 v out.length (out.map fun (c : Nat) => Value.int .u8 (c : Int))) (hB : B ≤ w.heap.size) (x : Value) (hx : Bytes w x l) (hnil : ∀ n c, x = .slice none n c → c = 0) (h1 : out.length ≤ 100000) (h2 : l.length ≤ 100000) :
    ∃ v' w', (Builtin.append_ #[22, 22] 22 #[v, x]).run Tryd.prog w = .ok v' w' ∧ Bytes w' v' (out ++ l) ∧ w.grownBy w' v.ownBlock := by
  obtain ⟨p, cap, rfl, hh⟩ := hx
  obtain ⟨i0, hi, hz0, hz1, hz2⟩ := info_parts info5
  cases p with
  | none =>
    have hl0 : l = [] := by
      rcases hh with h | ⟨b, o, he, _⟩
      · exact h
      · cases he
    subst hl0
    refine ⟨v, w, ?_, by rw [List.append_nil]; exact Bytes.of_owns rfl hown, World.grownBy.refl _ _⟩
    obtain rfl := hnil _ _ rfl
    exact run_append_owned_none (w := w) B 22 22 5 i0 1 Tryd.underlying22 hi v out.length _ hown
  | some a =>
    obtain ⟨v', w', hrun, hown', hgr, _⟩ := run_append_own w B 22 22 5 i0 (.int .u8 0) 1 1 Tryd.underlying22 hi hz0 hz1 hz2 rfl (by decide) v out.length _ hown a l.length cap (l.map fun (c : Nat) => Value.int .u8 (c : Int)) (by simp) (by
      intro j u hj
      rcases hh with h | ⟨b, o, he, _, hc⟩
      · subst h; simp at hj
      · cases he
        have hjl : j < l.length := by
          have := (List.getElem?_eq_some_iff.1 hj).1
          simpa using this
        have e : (⟨b, o, none⟩ : Addr).add j = ⟨b, o + j, none⟩ := by unfold Addr.add; split <;> simp_all
        rw [e, hc j hjl, ← hj]
        simp [List.getD_eq_getElem?_getD, hjl]) (by
      intro u hu
      obtain ⟨x, _, rfl⟩ := List.mem_map.1 hu
      rfl) (by unfold maxLen; omega) (by omega) hB
    refine ⟨v', w', hrun, Bytes.of_owns (B := B) (n := out.length + l.length) (by simp) ?_, hgr⟩
    rw [List.map_append]
    exact hown'
theorem cat_bytes (X Y : List UInt8) : (⟨X.toArray⟩ : ByteArray) ++ ⟨Y.toArray⟩ = ⟨(X ++ Y).toArray⟩ := by
  apply ByteArray.ext
  simp
end Go.Proofs.YthnohioamefbmaaDoor
