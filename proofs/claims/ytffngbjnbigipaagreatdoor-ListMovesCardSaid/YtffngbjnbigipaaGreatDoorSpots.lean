/- The spots of a text as they are read; the law's own examples (tells). -/
import Derived.Test.YtffngbjnbigipaaGreatDoorRFind
namespace Go.Proofs.YtffngbjnbigipaaGreatDoor
open Go.RowKit Go.Lib
set_option linter.unusedSimpArgs false
set_option linter.unusedVariables false
set_option linter.unnecessarySimpa false
set_option maxRecDepth 100000

/-- the four cells of a spot. -/
structure SpAt (w : World) (b o : Nat) (x : Sp) : Prop where
  c0 : w.cell? ⟨b, o, none⟩ = some (.int .i64 (x.1 : Int))
  c1 : w.cell? ⟨b, o + 1, none⟩ = some (.int .i64 (x.2.1 : Int))
  c2 : w.cell? ⟨b, o + 2, none⟩ = some (.string ⟨x.2.2.1.toArray⟩)
  c3 : w.cell? ⟨b, o + 3, none⟩ = some (.string ⟨x.2.2.2.toArray⟩)
theorem SpAt.below {w W : World} {b o : Nat} {x : Sp} (h : SpAt w b o x) (hb : Below w.heap.size w W) : SpAt W b o x :=
  have hl := World.block_lt_of_cell? w _ h.c0
  ⟨(hb.cell (p := ⟨b, o, none⟩) hl).trans h.c0, (hb.cell (p := ⟨b, o + 1, none⟩) hl).trans h.c1, (hb.cell (p := ⟨b, o + 2, none⟩) hl).trans h.c2, (hb.cell (p := ⟨b, o + 3, none⟩) hl).trans h.c3⟩
/-- a slice whose elements are these spots. -/
def SRow (w : World) (v : Value) (l : List Sp) : Prop := ∃ p cap, v = .slice p l.length cap ∧ (l = [] ∨ ∃ b, p = some ⟨b, 0, none⟩ ∧ ∀ (i : Nat) (x : Sp), l[i]? = some x → SpAt w b (i * 4) x)
theorem SRow.below {w W : World} {v : Value} {l : List Sp} (h : SRow w v l) (hb : Below w.heap.size w W) : SRow W v l := by
  obtain ⟨p, cap, hv, h⟩ := h
  refine ⟨p, cap, hv, ?_⟩
  rcases h with h | ⟨b, hp, h⟩
  · exact .inl h
  · exact .inr ⟨b, hp, fun i x hx => (h i x hx).below hb⟩
theorem spsC_get : ∀ (l : List Sp) (i j : Nat) (x : Sp), l[i]? = some x → j < 4 → (spsC l)[i * 4 + j]? = (spC x)[j]?
  | [], _, _, _, h, _ => by simp at h
  | a :: l, 0, j, x, h, hj => by
    obtain rfl : a = x := by simpa using h
    have e : spsC (a :: l) = spC a ++ spsC l := by simp [spsC]
    rw [e, List.getElem?_append_left (by simp [spC]; omega)]
    congr 1
    omega
  | a :: l, i + 1, j, x, h, hj => by
    have e : spsC (a :: l) = spC a ++ spsC l := by simp [spsC]
    have e4 : (spC a).length = 4 := rfl
    rw [e, List.getElem?_append_right (by rw [e4]; omega), e4, ← spsC_get l i j x (by simpa using h) hj]
    congr 1
    omega
theorem SRow.of {w : World} {v : Value} {l : List Sp} (h : Spots w v l) : SRow w v l := by
  obtain ⟨B, ho⟩ := h
  have hc := fun (g : Nat) (hg : v.ownBlock = some g) => World.ownsRow.cells ho (g := g) hg
  obtain ⟨_, ⟨rfl, h0⟩ | ⟨g, cap, cur, rfl, _⟩⟩ := ho
  · exact ⟨none, 0, by rw [h0], .inl (List.eq_nil_of_length_eq_zero h0)⟩
  · refine ⟨_, cap, rfl, .inr ⟨g, rfl, fun i x hx => ?_⟩⟩
    have hadd : ∀ j, (⟨g, 0, none⟩ : Addr).add j = ⟨g, j, none⟩ := fun j => by unfold Addr.add; split <;> simp_all
    have key : ∀ j u, j < 4 → (spC x)[j]? = some u → w.cell? ⟨g, i * 4 + j, none⟩ = some u := fun j u hj hu => by
      have := hc g rfl (i * 4 + j) u (by rw [spsC_get l i j x hx hj]; exact hu)
      rwa [hadd] at this
    exact ⟨key 0 _ (by omega) rfl, key 1 _ (by omega) rfl, key 2 _ (by omega) rfl, key 3 _ (by omega) rfl⟩
theorem Find_row (s : ByteArray) (hs : s.size ≤ 900000000) (w : World) (hE : Env w) :
    Calls Tryz.prog 11 #[.string s] w fun e w' => ∃ v, e = .returned (.tuple #[v, .int .i64 ((findL s.data.toList).2 : Int)]) ∧ SRow w' v (findL s.data.toList).1 ∧ Below w.heap.size w w' :=
  (Find_any s hs w hE).mono fun _ _ ⟨⟨v, h1, h2⟩, h3⟩ => ⟨v, h1, .of h2, h3⟩

def t1L : List UInt8 := [65, 110, 110, 32, 60, 97, 110, 110, 64, 120, 46, 111, 114, 103, 62, 44, 32, 98, 111, 98, 64, 121, 46, 111, 114, 103, 32, 40, 66, 111, 98, 41]
def t2L : List UInt8 := [116, 101, 97, 109, 58, 32, 97, 64, 120, 44, 32, 34, 66, 34, 32, 60, 64, 114, 58, 98, 64, 121, 62, 59, 44]
def t3L : List UInt8 := [65, 110, 110, 59, 32, 97, 32, 64, 98]
theorem find1 : findL t1L = ([(5, 14, [97, 110, 110], [120, 46, 111, 114, 103]), (17, 26, [98, 111, 98], [121, 46, 111, 114, 103])], 0) := by decide +kernel
theorem find2 : findL t2L = ([(6, 9, [97], [120]), (19, 22, [98], [121])], 0) := by decide +kernel
theorem find3 : findL t3L = ([], 5) := by decide +kernel
set_option maxHeartbeats 2000000 in
/-- the law's own examples. -/
theorem tells_any (w : World) (hE : Env w) : Calls Tryz.prog 13 #[] w fun e w' => e = .returned (.bool true) ∧ Below w.heap.size w w' := by
  have H1 := Lib.hid (Find_row ⟨t1L.toArray⟩ (by decide) w hE)
  have H2 := Lib.hid (fun W hE => Find_row ⟨t2L.toArray⟩ (by decide) W hE)
  have H3 := Lib.hid (fun W hE => Find_row ⟨t3L.toArray⟩ (by decide) W hE)
  simp only [List.toList_toArray, find1, find2, find3] at H1 H2 H3
  unfold t1L at H1
  unfold t2L at H2
  unfold t3L at H3
  have HE := Lib.hid hE
  clear hE
  go_enter Tryz.func13, Tryz.ntmps13
  go_wp2_with fail
  refine H1.out.mono ?_
  rintro e w1 ⟨v1, rfl, hr1, hb1⟩
  have R1 := Lib.hid hr1
  clear hr1
  go_wp2_with fail
  refine (H2.out _ (HE.out.below hb1)).mono ?_
  rintro e w2 ⟨v2, rfl, hr2, hb2⟩
  have hb12 := hb1.trans (hb2.mono hb1.size)
  have R2 := Lib.hid hr2
  clear hr2
  go_wp2_with fail
  refine (H3.out _ (HE.out.below hb12)).mono ?_
  rintro e w3 ⟨v3, rfl, hr3, hb3⟩
  have hb13 := hb12.trans (hb3.mono hb12.size)
  obtain ⟨p1, cap1, rfl, h | ⟨b1, rfl, g1⟩⟩ := (R1.out.below hb2).below hb3
  · cases h
  obtain ⟨p2, cap2, rfl, h | ⟨b2, rfl, g2⟩⟩ := R2.out.below hb3
  · cases h
  obtain ⟨a0, a1, a2, a3⟩ := g1 0 _ rfl
  obtain ⟨a4, a5, a6, a7⟩ := g1 1 _ rfl
  obtain ⟨d4, d5, d6, d7⟩ := g2 1 _ rfl
  simp only [Nat.zero_mul, Nat.zero_add, Nat.one_mul, Nat.reduceAdd] at a0 a1 a2 a3 a4 a5 a6 a7 d4 d5 d6 d7
  clear g1 g2 hr3
  go_wp2
  go_ret
  exact ⟨rfl, hb13⟩
end Go.Proofs.YtffngbjnbigipaaGreatDoor
