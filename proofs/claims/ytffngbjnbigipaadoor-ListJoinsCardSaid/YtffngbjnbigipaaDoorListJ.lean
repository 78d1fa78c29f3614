/- The plain law of ListJoins: a list, a comma, and a list; a list with white space about it. -/
import Derived.Test.YtffngbjnbigipaaDoorListX
namespace Go.Proofs.YtffngbjnbigipaaDoor
open Go.RowKit Go.Lib
set_option linter.unusedSimpArgs false
set_option linter.unusedVariables false

theorem findL_ne5 {l : List UInt8} {sp : List Sp} {e : Nat} (h : findL l = (sp, e)) (he : e ≠ 5) : ∃ sp' long, memsF l 0 ([], false) = some (l.length, sp', long) ∧ (e = 0 → sp' = sp ∧ sp.length ≤ 64 ∧ long = false) := by
  unfold findL at h
  split at h
  · injection h with _ h; exact absurd h.symm he
  · rename_i k sp' long hm
    split at h
    · injection h with _ h; exact absurd h.symm he
    · rename_i hk
      have : k = l.length := Classical.not_not.1 hk
      subst this
      refine ⟨sp', long, hm, fun h0 => ?_⟩
      subst h0
      split at h
      · simp at h
      · rename_i hl
        split at h
        · simp at h
        · rename_i hs
          injection h with h _
          subst h
          exact ⟨rfl, by omega, by simpa using hl⟩
theorem findL_of {l : List UInt8} {sp : List Sp} {long : Bool} (h : memsF l 0 ([], false) = some (l.length, sp, long)) : findL l = if long = true then ([], 3) else if 64 < sp.length then ([], 7) else (sp, 0) := by
  unfold findL
  rw [h]
  simp only
  rw [if_neg (by simp)]
theorem findL_len (l : List UInt8) : (findL l).1.length ≤ 64 := by
  unfold findL
  split
  · simp
  · split
    · simp
    · split
      · simp
      · split
        · simp
        · simpa using (by omega : ¬ 64 < _)
theorem comma_behind (b : List UInt8) : Behind (44 :: b) 0 := by
  have h : ∀ f k, (44 :: b).length ≤ f → blGo f (44 :: b) k = (k, 0) := by
    intro f k hf
    obtain ⟨f, rfl⟩ : ∃ g, f = g + 1 := ⟨f - 1, by simp at hf; omega⟩
    rw [blGo, if_neg (by decide), if_neg (by decide)]
  exact ⟨by simp, fun f k hf => by simpa using h f k hf, fun f k hf => by simpa using h f k (by simpa using hf), fun c hc => by simp at hc; subst hc; decide, fun c hc => by simp at hc; subst hc; decide, fun c hc => by simpa using hc.symm⟩
theorem join_law {a b : List UInt8} {sa sb : List Sp} (ha : findL a = (sa, 0)) (hb : findL b = (sb, 0)) (hn : sa.length + sb.length ≤ 64) :
    findL (a ++ 44 :: b) = (sa ++ sb.map (shSp (a.length + 1)), 0) := by
  obtain ⟨sa', ga, h1, h2⟩ := findL_ne5 ha (by decide)
  obtain ⟨rfl, ha64, rfl⟩ := h2 rfl
  obtain ⟨sb', gb, h3, h4⟩ := findL_ne5 hb (by decide)
  obtain ⟨rfl, hb64, rfl⟩ := h4 rfl
  obtain ⟨f0, hf0, hm⟩ := memsF_ext a (44 :: b) 0 (comma_behind b) h1
  rw [if_pos (by rfl)] at hm
  have e : a ++ 44 :: b = (a ++ [44]) ++ b := by simp
  have hsh := memsE_sh (a ++ [44]) b sa' false (memF_le b) (memF_sh (a ++ [44]) b sa' false) f0 0 ([], false) (by omega)
  rw [memsE_fuel (memF b) b (memF_le b) f0 (b.length + 1) 0 _ (by omega) (by simp at hf0; omega) (by omega)] at hsh
  have h3' : memsE (memF b) b (b.length + 1) 0 ([], false) = some (b.length, sb', false) := h3
  rw [h3', ← e] at hsh
  have hm2 : memsF (a ++ 44 :: b) 0 ([], false) = some ((a ++ 44 :: b).length, sa' ++ sb'.map (shSp (a.length + 1)), false) := by
    rw [hm]
    have e2 : shT (a ++ [44]).length sa' false ([], false) = (sa', false) := by simp [shT]
    rw [e2] at hsh
    simp only [List.length_append, List.length_cons, List.length_nil, Nat.add_zero, Nat.zero_add] at hsh ⊢
    rw [hsh]
    simp only [shR, shT, Option.map_some, List.length_append, List.length_cons, List.length_nil, Bool.or_false]
    congr 2
    omega
  rw [findL_of hm2]
  simp only [Bool.false_eq_true, if_false]
  rw [if_neg (by simp; omega)]

/-! white space about it -/
def aheadS : List UInt8 := [32, 40, 120, 41]
def behindS : List UInt8 := [9, 40, 121, 40, 122, 41, 41, 32]
theorem bl_fuel : ∀ (f f' : Nat) (l : List UInt8) (k : Nat), l.length ≤ f → l.length ≤ f' → blGo f l k = blGo f' l k
  | 0, 0, _, _, _, _ => rfl
  | 0, f' + 1, l, k, h, _ => by
    have : l = [] := List.eq_nil_of_length_eq_zero (by omega)
    subst this; rfl
  | f + 1, 0, l, k, _, h => by
    have : l = [] := List.eq_nil_of_length_eq_zero (by omega)
    subst this; rfl
  | f + 1, f' + 1, [], k, _, _ => rfl
  | f + 1, f' + 1, c :: l, k, h, h' => by
    rw [blGo, blGo]
    split
    · exact bl_fuel f f' l _ (by simpa using h) (by simpa using h')
    · split
      · split
        · rename_i h3
          have hc := (comment_many (c :: l)).1 h3
          exact bl_fuel f f' _ _ (by simp at h ⊢; omega) (by simp at h' ⊢; omega)
        · rfl
      · rfl
theorem behind_behind : Behind behindS 8 := by
  refine ⟨by decide, fun f k hf => ?_, fun f k hf => ?_, fun c hc => ?_, fun c hc => ?_, fun c hc => ?_⟩
  · rw [bl_fuel f 8 behindS k hf (by decide)]
    have h1 : commentL [40, 121, 40, 122, 41, 41, 32] = (6, 0) := by decide +kernel
    unfold behindS
    simp [blGo, h1]
  · cases f <;> rfl
  · simp [behindS] at hc; subst hc; decide
  · simp [behindS] at hc; subst hc; decide
  · simp [behindS] at hc
theorem blank_ahead (t : List UInt8) : blankE (aheadS ++ t) 0 = blankE (aheadS ++ t) 4 := by
  have h4 : (aheadS ++ t).drop 4 = t := rfl
  have hc : commentL (40 :: 120 :: 41 :: t) = (3, 0) := by
    have : commentL ([40, 120, 41] ++ t) = commentL [40, 120, 41] := commentL_app _ _ (by decide +kernel)
    rw [show (40 :: 120 :: 41 :: t : List UInt8) = [40, 120, 41] ++ t from rfl, this]
    decide +kernel
  have hs : ∀ (f : Nat) (l : List UInt8) (k : Nat), (blGo f l k).2 = (blGo f l 0).2 ∧ ((blGo f l 0).2 = 0 → (blGo f l k).1 = k + (blGo f l 0).1) := by
    intro f
    induction f with
    | zero => intro l k; simp [blGo]
    | succ f ih =>
      intro l k
      cases l with
      | nil => simp [blGo]
      | cons c l =>
        rw [blGo, blGo]
        split
        · have h1 := ih l (k + 1)
          have h2 := ih l (0 + 1)
          refine ⟨h1.1.trans h2.1.symm, fun h => ?_⟩
          have h0 := h2.1.symm.trans h
          rw [h1.2 h0, h2.2 h0]
          omega
        · split
          · split
            · have h1 := ih ((c :: l).drop (commentL (c :: l)).1) (k + (commentL (c :: l)).1)
              have h2 := ih ((c :: l).drop (commentL (c :: l)).1) (0 + (commentL (c :: l)).1)
              refine ⟨h1.1.trans h2.1.symm, fun h => ?_⟩
              have h0 := h2.1.symm.trans h
              rw [h1.2 h0, h2.2 h0]
              omega
            · rename_i h3
              exact ⟨rfl, fun h => absurd h h3⟩
          · simp
  unfold blankE blankL
  rw [h4, List.drop_zero]
  have e1 : blGo (aheadS ++ t).length (aheadS ++ t) 0 = blGo t.length t 4 := by
    rw [bl_fuel (aheadS ++ t).length (t.length + 4) (aheadS ++ t) 0 (Nat.le_refl _) (by simp [aheadS])]
    have : aheadS ++ t = 32 :: 40 :: 120 :: 41 :: t := rfl
    rw [this, blGo, if_pos (by decide), blGo, if_neg (by decide), if_pos (by decide), hc]
    simp only [if_true]
    rw [show (40 :: 120 :: 41 :: t).drop 3 = t from rfl]
    exact bl_fuel _ _ _ _ (by omega) (Nat.le_refl _)
  rw [e1]
  have h := hs t.length t 4
  rw [h.1]
  split
  · rename_i h0
    rw [h.2 h0]
    simp
  · rfl
theorem mem_ahead (inner : Nat → LSt → Option (Nat × LSt)) (t : List UInt8) (st : LSt) : memE inner false (aheadS ++ t) 0 st = memE inner false (aheadS ++ t) 4 st := by
  unfold memE
  rw [blank_ahead]
theorem about_law {s : List UInt8} {sa : List Sp} {e : Nat} (h : findL s = (sa, e)) (he : e ≠ 5) :
    (findL (aheadS ++ (s ++ behindS))).2 = e ∧ (e = 0 → (findL (aheadS ++ (s ++ behindS))).1 = sa.map (shSp 4)) := by
  obtain ⟨sa', g, h1, h2⟩ := findL_ne5 h he
  obtain ⟨f0, -, hm⟩ := memsF_ext s behindS 8 behind_behind h1
  rw [if_neg (by decide)] at hm
  have hsh := memsF_sh aheadS (s ++ behindS) [] false 0 ([], false) (by omega)
  rw [hm] at hsh
  have h0 : memsF (aheadS ++ (s ++ behindS)) 0 ([], false) = memsF (aheadS ++ (s ++ behindS)) 4 ([], false) := by
    unfold memsF
    rw [memsE, memsE]
    unfold memF
    rw [mem_ahead]
  have e2 : shT aheadS.length [] false ([], false) = ([], false) := by simp [shT]
  rw [e2] at hsh
  have hm2 : memsF (aheadS ++ (s ++ behindS)) 0 ([], false) = some ((aheadS ++ (s ++ behindS)).length, sa'.map (shSp 4), g) := by
    rw [h0]
    refine hsh.trans ?_
    simp [shR, shT, aheadS, behindS]
    omega
  rw [findL_of hm2]
  have hf := findL_of h1
  rw [h] at hf
  cases g with
  | true =>
    simp only [if_true] at hf ⊢
    injection hf with h3 h4
    subst h4
    exact ⟨rfl, fun h => by cases h⟩
  | false =>
    simp only [Bool.false_eq_true, if_false, List.length_map] at hf ⊢
    split at hf
    · rename_i h5
      rw [if_pos h5]
      injection hf with h3 h4
      subst h4
      exact ⟨rfl, fun h => by cases h⟩
    · rename_i h5
      rw [if_neg h5]
      injection hf with h3 h4
      subst h3; subst h4
      exact ⟨rfl, fun _ => rfl⟩
end Go.Proofs.YtffngbjnbigipaaDoor
