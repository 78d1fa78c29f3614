/- There and back: a text of an address is read as that address; what is read may be; normal forms. Plain Lean. -/
import Derived.Test.YtkoncmmbdlnmfaaGreatDoorTextA
namespace Go.Proofs.YtkoncmmbdlnmfaaGreatDoor
open Go.RowKit Go.Lib
set_option linter.unusedSimpArgs false
set_option linter.unusedVariables false
set_option linter.unnecessarySimpa false
set_option maxRecDepth 100000

theorem byte_all (p : UInt8 → Bool) (h : ∀ n < 256, p (UInt8.ofNat n) = true) (b : UInt8) : p b = true := by
  have := h b.toNat b.toNat_lt
  rwa [UInt8.ofNat_toNat] at this
theorem dot_mem : ∀ (l : List UInt8) (p : Bool), dotGo l p = true → ∀ b ∈ l, b.toNat = 46 ∨ atomB b.toNat = true
  | [], _, _, b, hb => by cases hb
  | c :: r, p, h, b, hb => by
    unfold dotGo at h
    by_cases hc : c.toNat = 46
    · rw [if_pos hc] at h
      cases p with
      | true => simp at h
      | false =>
        simp only [Bool.false_eq_true, if_false] at h
        rcases List.mem_cons.1 hb with rfl | hb
        · exact .inl hc
        · exact dot_mem r true h b hb
    · rw [if_neg hc] at h
      cases ha : atomB c.toNat with
      | false => rw [ha] at h; simp at h
      | true =>
        rw [ha] at h
        simp only [if_true] at h
        rcases List.mem_cons.1 hb with rfl | hb
        · exact .inr ha
        · exact dot_mem r false h b hb
theorem dot_ne {l : List UInt8} (h : dotGo l true = true) : ∀ b ∈ l, b ≠ 34 ∧ b ≠ 64 := by
  intro b hb
  have h1 := dot_mem l true h b hb
  constructor
  · rintro rfl
    rcases h1 with h1 | h1
    · cases h1
    · revert h1; decide
  · rintro rfl
    rcases h1 with h1 | h1
    · cases h1
    · revert h1; decide
theorem take_at : ∀ (l r : List UInt8), (∀ b ∈ l, b ≠ 64) → (l ++ 64 :: r).takeWhile (· != 64) = l ∧ (l ++ 64 :: r).dropWhile (· != 64) = 64 :: r
  | [], r, _ => by simp
  | b :: l, r, h => by
    have hb : (b != 64) = true := by simpa using h b (List.mem_cons_self)
    obtain ⟨h1, h2⟩ := take_at l r (fun x hx => h x (List.mem_cons_of_mem _ hx))
    rw [List.cons_append, List.takeWhile_cons_of_pos (p := fun x => x != 64) hb, List.dropWhile_cons_of_pos (p := fun x => x != 64) hb, h1, h2]
    exact ⟨rfl, rfl⟩
theorem quot_esc : ∀ (l rest out : List UInt8) (k : Nat), plainL l = true → quotGo (escL l ++ 34 :: rest) out k = (out ++ l, k + (escL l).length + 1, 0)
  | [], rest, out, k, _ => by
    cases rest with
    | nil => simp [escL, quotGo]
    | cons d r => simp [escL, quotGo]
  | b :: l, rest, out, k, h => by
    have hp : plainB b.toNat = true ∧ plainL l = true := by
      unfold plainL at h ⊢
      rw [List.all_cons, Bool.and_eq_true] at h
      exact h
    have e : escL (b :: l) = escB b ++ escL l := by simp [escL]
    by_cases hq : b.toNat = 34 ∨ b.toNat = 92
    · have eb : escB b = [92, b] := by unfold escB; rw [if_pos hq]
      rw [e, eb]
      have ih := quot_esc l rest (out ++ [b]) (k + 2) hp.2
      show quotGo (92 :: b :: (escL l ++ 34 :: rest)) out k = _
      unfold quotGo
      rw [if_neg (by decide), if_pos (by decide), if_pos hp.1, ih]
      simp only [List.append_assoc, List.singleton_append, List.length_append, List.length_cons, List.length_nil, Prod.mk.injEq, true_and, and_true]
      omega
    · have eb : escB b = [b] := by unfold escB; rw [if_neg hq]
      rw [e, eb]
      have ih := quot_esc l rest (out ++ [b]) (k + 1) hp.2
      obtain ⟨d, r, hd⟩ : ∃ d r, escL l ++ 34 :: rest = d :: r := by
        cases hx : escL l with
        | nil => exact ⟨_, _, rfl⟩
        | cons d r => exact ⟨_, _, rfl⟩
      show quotGo (b :: (escL l ++ 34 :: rest)) out k = _
      rw [hd] at ih ⊢
      unfold quotGo
      rw [if_neg (fun h => hq (.inl h)), if_neg (fun h => hq (.inr h)), if_pos hp.1, ih]
      simp only [List.append_assoc, List.singleton_append, List.length_append, List.length_cons, List.length_nil, Prod.mk.injEq, true_and, and_true]
      omega
theorem tail_ok {word d : List UInt8} (h1 : word.length ≤ 64) (h2 : domL d = 0) : tailL word (64 :: d) = (word, d, 0) := by
  have e : tailL word (64 :: d) = if (64 : UInt8) = 64 then (if domL d = 5 then ([], [], 5) else if domL d = 3 ∨ 64 < word.length then ([], [], 3) else (word, d, 0)) else ([], [], 5) := rfl
  rw [e, if_pos rfl, h2, if_neg (by decide), if_neg (by omega)]
/-- an address that may be is read of its text. -/
theorem text_parse (a : List UInt8 × List UInt8) (h : mayL a = true) : parseL (textL a) = (a.1, a.2, 0) := by
  obtain ⟨x, d⟩ := a
  have hm := h
  unfold mayL at hm
  simp only [Bool.and_eq_true, decide_eq_true_eq] at hm
  obtain ⟨⟨⟨h1, h2⟩, h3⟩, h4⟩ := hm
  have hne : x ≠ [] := by
    rintro rfl
    simp at h1
  unfold textL
  rw [if_pos h]
  simp only
  cases hd : dotGo x true with
  | true =>
    simp only [if_true]
    have hx := dot_ne hd
    obtain ⟨e1, e2⟩ := take_at x d (fun b hb => (hx b hb).2)
    have hh : (x ++ [64] ++ d).head? ≠ some 34 := by
      cases x with
      | nil => exact absurd rfl hne
      | cons b l =>
        intro e
        simp only [List.cons_append, List.head?_cons, Option.some.injEq] at e
        exact (hx b List.mem_cons_self).1 e
    have ea : x ++ [64] ++ d = x ++ 64 :: d := by simp
    unfold parseL headL
    rw [if_neg hh, ea, e1, e2, if_pos hd]
    exact tail_ok h2 h4
  | false =>
    simp only [Bool.false_eq_true, if_false]
    have ea : quoteL x ++ [64] ++ d = 34 :: (escL x ++ 34 :: 64 :: d) := by simp [quoteL]
    have hq : quoted (34 :: (escL x ++ 34 :: 64 :: d)) = (x, (escL x).length + 2, 0) := by
      unfold quoted
      simp only
      rw [if_pos (by decide), quot_esc x (64 :: d) [] 1 h3]
      simp only [List.nil_append, Prod.mk.injEq, true_and, and_true]
      omega
    unfold parseL headL
    rw [ea, if_pos (by rfl), hq]
    simp only
    rw [if_pos ⟨trivial, hne⟩]
    have hdrop : (34 :: (escL x ++ 34 :: 64 :: d)).drop ((escL x).length + 2) = 64 :: d := by
      rw [show 34 :: (escL x ++ 34 :: 64 :: d) = (34 :: (escL x ++ [34])) ++ 64 :: d by simp]
      rw [List.drop_left' (by simp)]
    simp only [hdrop]
    exact tail_ok h2 h4
theorem quot_pl : ∀ (l out : List UInt8) (k : Nat), plainL out = true → (quotGo l out k).2.2 = 0 → plainL (quotGo l out k).1 = true
  | [], out, k, ho, h => by simp [quotGo] at h
  | [c], out, k, ho, h => by
    unfold quotGo at h ⊢
    split
    · exact ho
    · rename_i h1
      rw [if_neg h1] at h
      split
      · rfl
      · split <;> rfl
  | c :: d :: r, out, k, ho, h => by
    have snoc : ∀ b, plainB b.toNat = true → plainL (out ++ [b]) = true := fun b hb => by
      unfold plainL at ho ⊢
      rw [List.all_append, ho]
      simp [hb]
    unfold quotGo at h ⊢
    by_cases h1 : c.toNat = 34
    · rw [if_pos h1]; exact ho
    · rw [if_neg h1] at h ⊢
      by_cases h2 : c.toNat = 92
      · rw [if_pos h2] at h ⊢
        by_cases h3 : plainB d.toNat = true
        · rw [if_pos h3] at h ⊢
          exact quot_pl r _ _ (snoc d h3) h
        · rw [if_neg h3]; rfl
      · rw [if_neg h2] at h ⊢
        by_cases h3 : plainB c.toNat = true
        · rw [if_pos h3] at h ⊢
          exact quot_pl (d :: r) _ _ (snoc c h3) h
        · rw [if_neg h3]; rfl
theorem atom_plain (b : UInt8) (h : atomB b.toNat = true) : plainB b.toNat = true := by
  have := byte_all (fun b => !atomB b.toNat || plainB b.toNat) (by decide) b
  simp only [h, Bool.not_true, Bool.false_or] at this
  exact this
theorem head_may {l w r : List UInt8} (h : headL l = some (w, r)) : w ≠ [] ∧ plainL w = true := by
  unfold headL at h
  split at h
  · split at h
    · rename_i hq
      injection h with h
      injection h with h1 h2
      subst h1
      refine ⟨hq.2, ?_⟩
      unfold quoted at hq ⊢
      split
      · rfl
      · rename_i c r'
        split
        · rename_i hc
          have h3 := hq.1
          simp only [hc, if_true] at h3
          exact quot_pl _ _ _ rfl h3
        · rfl
    · cases h
  · split at h
    · rename_i hd
      injection h with h
      injection h with h1 h2
      subst h1
      refine ⟨fun e => ?_, ?_⟩
      · rw [e] at hd; simp [dotGo] at hd
      · unfold plainL
        rw [List.all_eq_true]
        intro b hb
        rcases dot_mem _ _ hd b hb with h3 | h3
        · rw [h3]; rfl
        · exact atom_plain b h3
    · cases h
theorem tail_inv {w r : List UInt8} (h : (tailL w r).2.2 = 0) : (tailL w r).1 = w ∧ domL (tailL w r).2.1 = 0 ∧ w.length ≤ 64 := by
  cases r with
  | nil => simp [tailL] at h
  | cons c d =>
    have e : tailL w (c :: d) = if c = 64 then (if domL d = 5 then ([], [], 5) else if domL d = 3 ∨ 64 < w.length then ([], [], 3) else (w, d, 0)) else ([], [], 5) := rfl
    rw [e] at h ⊢
    by_cases h1 : c = 64
    · rw [if_pos h1] at h ⊢
      by_cases h2 : domL d = 5
      · rw [if_pos h2] at h; cases h
      · rw [if_neg h2] at h ⊢
        by_cases h3 : domL d = 3 ∨ 64 < w.length
        · rw [if_pos h3] at h; cases h
        · rw [if_neg h3]
          rcases domL_cases d with h4 | h4 | h4
          · exact ⟨rfl, h4, by omega⟩
          · exact absurd (.inl h4) h3
          · exact absurd h4 h2
    · rw [if_neg h1] at h; cases h
/-- what is read may be. -/
theorem parse_may (l : List UInt8) (h : (parseL l).2.2 = 0) : mayL ((parseL l).1, (parseL l).2.1) = true := by
  unfold parseL at h ⊢
  split
  · rename_i hn
    rw [hn] at h
    cases h
  · rename_i w r hw
    rw [hw] at h
    simp only at h ⊢
    obtain ⟨h1, h2, h3⟩ := tail_inv h
    obtain ⟨h4, h5⟩ := head_may hw
    unfold mayL
    simp only [h1, Bool.and_eq_true, decide_eq_true_eq]
    exact ⟨⟨⟨by simpa using h4, h3⟩, h5⟩, h2⟩
theorem tail_err (w r : List UInt8) (h : (tailL w r).2.2 ≠ 0) : (tailL w r).1 = [] ∧ (tailL w r).2.1 = [] := by
  cases r with
  | nil => exact ⟨rfl, rfl⟩
  | cons c d =>
    have e : tailL w (c :: d) = if c = 64 then (if domL d = 5 then ([], [], 5) else if domL d = 3 ∨ 64 < w.length then ([], [], 3) else (w, d, 0)) else ([], [], 5) := rfl
    rw [e] at h ⊢
    by_cases h1 : c = 64
    · rw [if_pos h1] at h ⊢
      by_cases h2 : domL d = 5
      · rw [if_pos h2]; exact ⟨rfl, rfl⟩
      · rw [if_neg h2] at h ⊢
        by_cases h3 : domL d = 3 ∨ 64 < w.length
        · rw [if_pos h3]; exact ⟨rfl, rfl⟩
        · rw [if_neg h3] at h; exact absurd rfl h
    · rw [if_neg h1]; exact ⟨rfl, rfl⟩
theorem parse_err (l : List UInt8) (h : (parseL l).2.2 ≠ 0) : (parseL l).1 = [] ∧ (parseL l).2.1 = [] := by
  unfold parseL at h ⊢
  split
  · exact ⟨rfl, rfl⟩
  · rename_i w r hw
    rw [hw] at h
    exact tail_err w r h
end Go.Proofs.YtkoncmmbdlnmfaaGreatDoor
