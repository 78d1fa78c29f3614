/- Several texts joined into one (a claim has a limit of files). -/
import Derived.Test.YtffngbjnbigipaaGreatDoorSplP
import Derived.Lib.Fold
import Derived.Test.YtffngbjnbigipaaGreatDoorListL
/- There and back: a text of an address is read as that address; what is read may be; normal forms. Plain Lean. -/
namespace Go.Proofs.YtffngbjnbigipaaGreatDoor
open Go.RowKit Go.Lib
set_option linter.unusedSimpArgs false
set_option linter.unusedVariables false
set_option linter.unnecessarySimpa false
set_option maxRecDepth 100000

theorem byte_all (p : UInt8 → Bool) (h : ∀ n < 256, p (UInt8.ofNat n) = true) (b : UInt8) : p b = true := by
  have := h b.toNat b.toNat_lt
  rwa [UInt8.ofNat_toNat] at this
theorem dot_mem : ∀ (l : List UInt8) (p : Bool), dotGo l p = true → ∀ b ∈ l, b.toNat = 46 ∨ atomB b.toNat = true
  | [], _, _, b, hb => by cases hb
  | c :: r, p, h, b, hb => by
    unfold dotGo at h
    by_cases hc : c.toNat = 46
    · rw [if_pos hc] at h
      cases p with
      | true => simp at h
      | false =>
        simp only [Bool.false_eq_true, if_false] at h
        rcases List.mem_cons.1 hb with rfl | hb
        · exact .inl hc
        · exact dot_mem r true h b hb
    · rw [if_neg hc] at h
      cases ha : atomB c.toNat with
      | false => rw [ha] at h; simp at h
      | true =>
        rw [ha] at h
        simp only [if_true] at h
        rcases List.mem_cons.1 hb with rfl | hb
        · exact .inr ha
        · exact dot_mem r false h b hb
theorem dot_ne {l : List UInt8} (h : dotGo l true = true) : ∀ b ∈ l, b ≠ 34 ∧ b ≠ 64 := by
  intro b hb
  have h1 := dot_mem l true h b hb
  constructor
  · rintro rfl
    rcases h1 with h1 | h1
    · cases h1
    · revert h1; decide
  · rintro rfl
    rcases h1 with h1 | h1
    · cases h1
    · revert h1; decide
theorem take_at : ∀ (l r : List UInt8), (∀ b ∈ l, b ≠ 64) → (l ++ 64 :: r).takeWhile (· != 64) = l ∧ (l ++ 64 :: r).dropWhile (· != 64) = 64 :: r
  | [], r, _ => by simp
  | b :: l, r, h => by
    have hb : (b != 64) = true := by simpa using h b (List.mem_cons_self)
    obtain ⟨h1, h2⟩ := take_at l r (fun x hx => h x (List.mem_cons_of_mem _ hx))
    rw [List.cons_append, List.takeWhile_cons_of_pos (p := fun x => x != 64) hb, List.dropWhile_cons_of_pos (p := fun x => x != 64) hb, h1, h2]
    exact ⟨rfl, rfl⟩
theorem quot_esc : ∀ (l rest out : List UInt8) (k : Nat), plainL l = true → quotGo (escL l ++ 34 :: rest) out k = (out ++ l, k + (escL l).length + 1, 0)
  | [], rest, out, k, _ => by
    cases rest with
    | nil => simp [escL, quotGo]
    | cons d r => simp [escL, quotGo]
  | b :: l, rest, out, k, h => by
    have hp : plainB b.toNat = true ∧ plainL l = true := by
      unfold plainL at h ⊢
      rw [List.all_cons, Bool.and_eq_true] at h
      exact h
    have e : escL (b :: l) = escB b ++ escL l := by simp [escL]
    by_cases hq : b.toNat = 34 ∨ b.toNat = 92
    · have eb : escB b = [92, b] := by unfold escB; rw [if_pos hq]
      rw [e, eb]
      have ih := quot_esc l rest (out ++ [b]) (k + 2) hp.2
      show quotGo (92 :: b :: (escL l ++ 34 :: rest)) out k = _
      unfold quotGo
      rw [if_neg (by decide), if_pos (by decide), if_pos hp.1, ih]
      simp only [List.append_assoc, List.singleton_append, List.length_append, List.length_cons, List.length_nil, Prod.mk.injEq, true_and, and_true]
      omega
    · have eb : escB b = [b] := by unfold escB; rw [if_neg hq]
      rw [e, eb]
      have ih := quot_esc l rest (out ++ [b]) (k + 1) hp.2
      obtain ⟨d, r, hd⟩ : ∃ d r, escL l ++ 34 :: rest = d :: r := by
        cases hx : escL l with
        | nil => exact ⟨_, _, rfl⟩
        | cons d r => exact ⟨_, _, rfl⟩
      show quotGo (b :: (escL l ++ 34 :: rest)) out k = _
      rw [hd] at ih ⊢
      unfold quotGo
      rw [if_neg (fun h => hq (.inl h)), if_neg (fun h => hq (.inr h)), if_pos hp.1, ih]
      simp only [List.append_assoc, List.singleton_append, List.length_append, List.length_cons, List.length_nil, Prod.mk.injEq, true_and, and_true]
      omega
theorem tail_ok {word d : List UInt8} (h1 : word.length ≤ 64) (h2 : domL d = 0) : tailL word (64 :: d) = (word, d, 0) := by
  have e : tailL word (64 :: d) = if (64 : UInt8) = 64 then (if domL d = 5 then ([], [], 5) else if domL d = 3 ∨ 64 < word.length then ([], [], 3) else (word, d, 0)) else ([], [], 5) := rfl
  rw [e, if_pos rfl, h2, if_neg (by decide), if_neg (by omega)]
/-- an address that may be is read of its text. -/
theorem text_parse (a : List UInt8 × List UInt8) (h : mayL a = true) : parseL (textL a) = (a.1, a.2, 0) := by
  obtain ⟨x, d⟩ := a
  have hm := h
  unfold mayL at hm
  simp only [Bool.and_eq_true, decide_eq_true_eq] at hm
  obtain ⟨⟨⟨h1, h2⟩, h3⟩, h4⟩ := hm
  have hne : x ≠ [] := by
    rintro rfl
    simp at h1
  unfold textL
  rw [if_pos h]
  simp only
  cases hd : dotGo x true with
  | true =>
    simp only [if_true]
    have hx := dot_ne hd
    obtain ⟨e1, e2⟩ := take_at x d (fun b hb => (hx b hb).2)
    have hh : (x ++ [64] ++ d).head? ≠ some 34 := by
      cases x with
      | nil => exact absurd rfl hne
      | cons b l =>
        intro e
        simp only [List.cons_append, List.head?_cons, Option.some.injEq] at e
        exact (hx b List.mem_cons_self).1 e
    have ea : x ++ [64] ++ d = x ++ 64 :: d := by simp
    unfold parseL headL
    rw [if_neg hh, ea, e1, e2, if_pos hd]
    exact tail_ok h2 h4
  | false =>
    simp only [Bool.false_eq_true, if_false]
    have ea : quoteL x ++ [64] ++ d = 34 :: (escL x ++ 34 :: 64 :: d) := by simp [quoteL]
    have hq : quoted (34 :: (escL x ++ 34 :: 64 :: d)) = (x, (escL x).length + 2, 0) := by
      unfold quoted
      simp only
      rw [if_pos (by decide), quot_esc x (64 :: d) [] 1 h3]
      simp only [List.nil_append, Prod.mk.injEq, true_and, and_true]
      omega
    unfold parseL headL
    rw [ea, if_pos (by rfl), hq]
    simp only
    rw [if_pos ⟨trivial, hne⟩]
    have hdrop : (34 :: (escL x ++ 34 :: 64 :: d)).drop ((escL x).length + 2) = 64 :: d := by
      rw [show 34 :: (escL x ++ 34 :: 64 :: d) = (34 :: (escL x ++ [34])) ++ 64 :: d by simp]
      rw [List.drop_left' (by simp)]
    simp only [hdrop]
    exact tail_ok h2 h4
theorem quot_pl : ∀ (l out : List UInt8) (k : Nat), plainL out = true → (quotGo l out k).2.2 = 0 → plainL (quotGo l out k).1 = true
  | [], out, k, ho, h => by simp [quotGo] at h
  | [c], out, k, ho, h => by
    unfold quotGo at h ⊢
    split
    · exact ho
    · rename_i h1
      rw [if_neg h1] at h
      split
      · rfl
      · split <;> rfl
  | c :: d :: r, out, k, ho, h => by
    have snoc : ∀ b, plainB b.toNat = true → plainL (out ++ [b]) = true := fun b hb => by
      unfold plainL at ho ⊢
      rw [List.all_append, ho]
      simp [hb]
    unfold quotGo at h ⊢
    by_cases h1 : c.toNat = 34
    · rw [if_pos h1]; exact ho
    · rw [if_neg h1] at h ⊢
      by_cases h2 : c.toNat = 92
      · rw [if_pos h2] at h ⊢
        by_cases h3 : plainB d.toNat = true
        · rw [if_pos h3] at h ⊢
          exact quot_pl r _ _ (snoc d h3) h
        · rw [if_neg h3]; rfl
      · rw [if_neg h2] at h ⊢
        by_cases h3 : plainB c.toNat = true
        · rw [if_pos h3] at h ⊢
          exact quot_pl (d :: r) _ _ (snoc c h3) h
        · rw [if_neg h3]; rfl
theorem atom_plain (b : UInt8) (h : atomB b.toNat = true) : plainB b.toNat = true := by
  have := byte_all (fun b => !atomB b.toNat || plainB b.toNat) (by decide) b
  simp only [h, Bool.not_true, Bool.false_or] at this
  exact this
theorem head_may {l w r : List UInt8} (h : headL l = some (w, r)) : w ≠ [] ∧ plainL w = true := by
  unfold headL at h
  split at h
  · split at h
    · rename_i hq
      injection h with h
      injection h with h1 h2
      subst h1
      refine ⟨hq.2, ?_⟩
      unfold quoted at hq ⊢
      split
      · rfl
      · rename_i c r'
        split
        · rename_i hc
          have h3 := hq.1
          simp only [hc, if_true] at h3
          exact quot_pl _ _ _ rfl h3
        · rfl
    · cases h
  · split at h
    · rename_i hd
      injection h with h
      injection h with h1 h2
      subst h1
      refine ⟨fun e => ?_, ?_⟩
      · rw [e] at hd; simp [dotGo] at hd
      · unfold plainL
        rw [List.all_eq_true]
        intro b hb
        rcases dot_mem _ _ hd b hb with h3 | h3
        · rw [h3]; rfl
        · exact atom_plain b h3
    · cases h
theorem tail_inv {w r : List UInt8} (h : (tailL w r).2.2 = 0) : (tailL w r).1 = w ∧ domL (tailL w r).2.1 = 0 ∧ w.length ≤ 64 := by
  cases r with
  | nil => simp [tailL] at h
  | cons c d =>
    have e : tailL w (c :: d) = if c = 64 then (if domL d = 5 then ([], [], 5) else if domL d = 3 ∨ 64 < w.length then ([], [], 3) else (w, d, 0)) else ([], [], 5) := rfl
    rw [e] at h ⊢
    by_cases h1 : c = 64
    · rw [if_pos h1] at h ⊢
      by_cases h2 : domL d = 5
      · rw [if_pos h2] at h; cases h
      · rw [if_neg h2] at h ⊢
        by_cases h3 : domL d = 3 ∨ 64 < w.length
        · rw [if_pos h3] at h; cases h
        · rw [if_neg h3]
          rcases domL_cases d with h4 | h4 | h4
          · exact ⟨rfl, h4, by omega⟩
          · exact absurd (.inl h4) h3
          · exact absurd h4 h2
    · rw [if_neg h1] at h; cases h
/-- what is read may be. -/
theorem parse_may (l : List UInt8) (h : (parseL l).2.2 = 0) : mayL ((parseL l).1, (parseL l).2.1) = true := by
  unfold parseL at h ⊢
  split
  · rename_i hn
    rw [hn] at h
    cases h
  · rename_i w r hw
    rw [hw] at h
    simp only at h ⊢
    obtain ⟨h1, h2, h3⟩ := tail_inv h
    obtain ⟨h4, h5⟩ := head_may hw
    unfold mayL
    simp only [h1, Bool.and_eq_true, decide_eq_true_eq]
    exact ⟨⟨⟨by simpa using h4, h3⟩, h5⟩, h2⟩
theorem tail_err (w r : List UInt8) (h : (tailL w r).2.2 ≠ 0) : (tailL w r).1 = [] ∧ (tailL w r).2.1 = [] := by
  cases r with
  | nil => exact ⟨rfl, rfl⟩
  | cons c d =>
    have e : tailL w (c :: d) = if c = 64 then (if domL d = 5 then ([], [], 5) else if domL d = 3 ∨ 64 < w.length then ([], [], 3) else (w, d, 0)) else ([], [], 5) := rfl
    rw [e] at h ⊢
    by_cases h1 : c = 64
    · rw [if_pos h1] at h ⊢
      by_cases h2 : domL d = 5
      · rw [if_pos h2]; exact ⟨rfl, rfl⟩
      · rw [if_neg h2] at h ⊢
        by_cases h3 : domL d = 3 ∨ 64 < w.length
        · rw [if_pos h3]; exact ⟨rfl, rfl⟩
        · rw [if_neg h3] at h; exact absurd rfl h
    · rw [if_neg h1]; exact ⟨rfl, rfl⟩
theorem parse_err (l : List UInt8) (h : (parseL l).2.2 ≠ 0) : (parseL l).1 = [] ∧ (parseL l).2.1 = [] := by
  unfold parseL at h ⊢
  split
  · exact ⟨rfl, rfl⟩
  · rename_i w r hw
    rw [hw] at h
    exact tail_err w r h
end Go.Proofs.YtffngbjnbigipaaGreatDoor

/- Several texts joined into one (a claim has a limit of files). -/
/- What the law's Made makes may be: plain Lean. -/
namespace Go.Proofs.YtffngbjnbigipaaGreatDoor
open Go.RowKit Go.Lib
set_option linter.unusedSimpArgs false
set_option linter.unusedVariables false
set_option linter.unnecessarySimpa false
set_option maxRecDepth 100000

/-- each pair p q, from the left, is another text. -/
def rw2 (p q : UInt8) (new : List UInt8) : List UInt8 → List UInt8
  | [] => []
  | [a] => [a]
  | a :: b :: l => if a = p ∧ b = q then new ++ rw2 p q new l else a :: rw2 p q new (b :: l)
theorem pre2 (p q a b : UInt8) (l : List UInt8) : ([p, q] : List UInt8).isPrefixOf (a :: b :: l) = true ↔ a = p ∧ b = q := by
  simp [List.isPrefixOf]
  exact ⟨fun h => ⟨h.1.symm, h.2.symm⟩, fun h => ⟨h.1.symm, h.2.symm⟩⟩
theorem index2_none (p q : UInt8) (new : List UInt8) : ∀ s : List UInt8, Lib.index s [p, q] = -1 → rw2 p q new s = s
  | [], _ => rfl
  | [a], _ => rfl
  | a :: b :: l, h => by
    have e : Lib.index (a :: b :: l) [p, q] = if ([p, q] : List UInt8).isPrefixOf (a :: b :: l) then 0 else if Lib.index (b :: l) [p, q] == -1 then -1 else Lib.index (b :: l) [p, q] + 1 := rfl
    rw [e] at h
    by_cases hp : a = p ∧ b = q
    · rw [if_pos ((pre2 p q a b l).2 hp)] at h; cases h
    · rw [if_neg (fun x => hp ((pre2 p q a b l).1 x))] at h
      have hge := Lib.index_ge (b :: l) [p, q]
      have h1 : Lib.index (b :: l) [p, q] = -1 := by
        by_cases hx : Lib.index (b :: l) [p, q] = -1
        · exact hx
        · rw [if_neg (by simpa using hx)] at h; omega
      rw [rw2, if_neg hp, index2_none p q new (b :: l) h1]
theorem index2_some (p q : UInt8) (new : List UInt8) : ∀ (s : List UInt8) (i : Nat), Lib.index s [p, q] = i → rw2 p q new s = s.take i ++ new ++ rw2 p q new (s.drop (i + 2))
  | [], i, h => by
    have e : Lib.index [] [p, q] = -1 := rfl
    rw [e] at h; omega
  | [a], i, h => by
    have e : Lib.index [a] [p, q] = -1 := by
      show (if ([p, q] : List UInt8).isPrefixOf [a] then (0 : Int) else if Lib.index [] [p, q] == -1 then -1 else Lib.index [] [p, q] + 1) = -1
      rw [if_neg (by simp [List.isPrefixOf])]
      rfl
    rw [e] at h; omega
  | a :: b :: l, i, h => by
    have e : Lib.index (a :: b :: l) [p, q] = if ([p, q] : List UInt8).isPrefixOf (a :: b :: l) then 0 else if Lib.index (b :: l) [p, q] == -1 then -1 else Lib.index (b :: l) [p, q] + 1 := rfl
    rw [e] at h
    by_cases hp : a = p ∧ b = q
    · rw [if_pos ((pre2 p q a b l).2 hp)] at h
      obtain rfl : i = 0 := by omega
      rw [rw2, if_pos hp]
      simp
    · rw [if_neg (fun x => hp ((pre2 p q a b l).1 x))] at h
      have hge := Lib.index_ge (b :: l) [p, q]
      by_cases hx : Lib.index (b :: l) [p, q] = -1
      · rw [if_pos (by simpa using hx)] at h; omega
      · rw [if_neg (by simpa using hx)] at h
        obtain ⟨j, rfl⟩ : ∃ j, i = j + 1 := ⟨i - 1, by omega⟩
        have ih := index2_some p q new (b :: l) j (by omega)
        rw [rw2, if_neg hp, ih]
        rfl
theorem replK_rw2 (p q : UInt8) (new : List UInt8) : ∀ (k : Nat) (s : List UInt8), Lib.count s [p, q] = k → Lib.replaceK [p, q] new k s = rw2 p q new s
  | 0, s, h => by
    rcases Lib.index_spec s [p, q] with ⟨h1, _⟩ | ⟨i, h1, _⟩
    · rw [index2_none p q new s h1]; rfl
    · rw [Lib.count_hit (by simp) h1] at h; omega
  | k + 1, s, h => by
    rcases Lib.index_spec s [p, q] with ⟨h1, _⟩ | ⟨i, h1, _⟩
    · rw [Lib.count_miss h1] at h; omega
    · have h2 := h
      rw [Lib.count_hit (by simp) h1] at h2
      rw [Lib.replaceK_hit [p, q] new k s i h1, index2_some p q new s i h1, replK_rw2 p q new k _ (by omega)]
      rfl
theorem repl_rw2 (p q : UInt8) (new s : List UInt8) (h : ([p, q] == new) = false) : Lib.replaceAll s [p, q] new = rw2 p q new s := by
  unfold Lib.replaceAll Lib.replace
  rw [h]
  simp only [Bool.false_eq_true, if_false]
  refine replK_rw2 p q new _ s ?_
  unfold Lib.replaceNum
  rw [if_pos (Or.inl (by decide))]

/-! the first two: letters turn, places stay -/
theorem step1_get : ∀ (s : List UInt8) (i : Nat), (rw2 45 46 [120, 46] s)[i]? = s[i]?.map fun a => if a = 45 ∧ s[i + 1]? = some 46 then 120 else a
  | [], i => by simp [rw2]
  | [a], i => by
    cases i with
    | zero => simp [rw2]
    | succ i => simp [rw2]
  | a :: b :: l, i => by
    by_cases hp : a = 45 ∧ b = 46
    · rw [rw2, if_pos hp]
      obtain ⟨rfl, rfl⟩ := hp
      match i with
      | 0 => simp
      | 1 => simp
      | i + 2 =>
        have := step1_get l i
        simpa using this
    · rw [rw2, if_neg hp]
      match i with
      | 0 =>
        have : ¬ (a = 45 ∧ b = 46) := hp
        simp [this]
      | i + 1 =>
        have := step1_get (b :: l) i
        simpa using this
theorem step2_get : ∀ (s : List UInt8), (rw2 46 45 [46, 121] s)[0]? = s[0]? ∧ ∀ i, (rw2 46 45 [46, 121] s)[i + 1]? = s[i + 1]?.map fun a => if a = 45 ∧ s[i]? = some 46 then 121 else a
  | [] => by simp [rw2]
  | [a] => by simp [rw2]
  | a :: b :: l => by
    by_cases hp : a = 46 ∧ b = 45
    · rw [rw2, if_pos hp]
      obtain ⟨rfl, rfl⟩ := hp
      obtain ⟨h0, h1⟩ := step2_get l
      refine ⟨rfl, fun i => ?_⟩
      match i with
      | 0 => simp
      | 1 =>
        show (rw2 46 45 [46, 121] l)[0]? = l[0]?.map fun a => if a = 45 ∧ some (45 : UInt8) = some 46 then 121 else a
        rw [h0]
        cases l[0]? with
        | none => rfl
        | some x => simp
      | i + 2 =>
        have := h1 i
        simpa using this
    · rw [rw2, if_neg hp]
      obtain ⟨h0, h1⟩ := step2_get (b :: l)
      refine ⟨rfl, fun i => ?_⟩
      match i with
      | 0 =>
        show (rw2 46 45 [46, 121] (b :: l))[0]? = some (if b = 45 ∧ some a = some 46 then 121 else b)
        rw [h0]
        have : ¬ (b = 45 ∧ some a = some (46 : UInt8)) := fun h => hp ⟨Option.some.inj h.2, h.1⟩
        rw [if_neg this]
        rfl
      | i + 1 =>
        have := h1 i
        simpa using this
theorem step3_none : ∀ (s : List UInt8), (∀ i : Nat, ¬ (s[i]? = some 46 ∧ s[i + 1]? = some 46)) → rw2 46 46 [46, 122, 46] s = s
  | [], _ => rfl
  | [a], _ => rfl
  | a :: b :: l, h => by
    have hp : ¬ (a = 46 ∧ b = 46) := fun hp => h 0 (by simp [hp.1, hp.2])
    rw [rw2, if_neg hp, step3_none (b :: l) (fun i hi => h (i + 1) (by simpa using hi))]
theorem step3_end : ∀ (u : List UInt8), (∀ i : Nat, ¬ ((u ++ [46])[i]? = some 46 ∧ (u ++ [46])[i + 1]? = some 46)) → rw2 46 46 [46, 122, 46] (u ++ [46, 46]) = u ++ [46, 122, 46]
  | [], _ => by simp [rw2]
  | [a], h => by
    have hp : ¬ a = 46 := fun hp => h 0 (by simp [hp])
    show rw2 46 46 [46, 122, 46] (a :: 46 :: [46]) = _
    rw [rw2, if_neg (fun x => hp x.1)]
    simp [rw2]
  | a :: b :: l, h => by
    have hp : ¬ (a = 46 ∧ b = 46) := fun hp => h 0 (by simp [hp.1, hp.2])
    have ih := step3_end (b :: l) (fun i hi => h (i + 1) (by simpa using hi))
    show rw2 46 46 [46, 122, 46] (a :: b :: (l ++ [46, 46])) = _
    rw [rw2, if_neg hp]
    have ih2 : rw2 46 46 [46, 122, 46] (b :: (l ++ [46, 46])) = b :: (l ++ [46, 122, 46]) := by simpa using ih
    rw [ih2]
    simp
/-! a domain by its neighbours -/
def okC : UInt8 → List UInt8 → Prop
  | p, [] => p ≠ 45 ∧ p ≠ 46
  | p, x :: xs => (x = 46 ∨ hostB x = true) ∧ ¬ (p = 46 ∧ (x = 46 ∨ x = 45)) ∧ ¬ (p = 45 ∧ x = 46) ∧ okC x xs
theorem okC_go : ∀ (xs cur : List UInt8) (p : UInt8), okC p xs → (cur = [] ∧ p = 46 ∨ ∃ c, cur = c ++ [p] ∧ cur.head? ≠ some 45 ∧ p ≠ 46) → cur.length + xs.length ≤ 63 → domGo cur xs false = 0
  | [], cur, p, h, hc, hl => by
    obtain ⟨h1, h2⟩ := h
    rcases hc with ⟨_, hc⟩ | ⟨c, rfl, hh, _⟩
    · exact absurd hc h2
    · unfold domGo
      have he : edgeB (c ++ [p]) = true := by
        unfold edgeB
        simp only [Bool.and_eq_true]
        refine ⟨⟨by simp, by simpa using hh⟩, by simpa using h1⟩
      rw [if_pos he]
      simp only [List.length_nil, Nat.add_zero] at hl
      rw [decide_eq_false (by omega)]
      rfl
  | x :: xs, cur, p, h, hc, hl => by
    obtain ⟨h1, h2, h3, h4⟩ := h
    simp only [List.length_cons] at hl
    unfold domGo
    by_cases hx : x = 46
    · subst hx
      rw [if_pos (by rfl)]
      rcases hc with ⟨_, hc⟩ | ⟨c, rfl, hh, hp⟩
      · exact absurd ⟨hc, .inl rfl⟩ h2
      · have he : edgeB (c ++ [p]) = true := by
          unfold edgeB
          simp only [Bool.and_eq_true]
          refine ⟨⟨by simp, by simpa using hh⟩, ?_⟩
          have : p ≠ 45 := fun e => h3 ⟨e, rfl⟩
          simpa using this
        rw [if_pos he, decide_eq_false (by omega)]
        exact okC_go xs [] 46 h4 (.inl ⟨rfl, rfl⟩) (by simp only [List.length_nil]; omega)
    · have hx2 : ¬ x.toNat = 46 := fun e => hx (UInt8.toNat_inj.1 e)
      rw [if_neg hx2, if_pos (h1.resolve_left hx)]
      refine okC_go xs (cur ++ [x]) x h4 (.inr ⟨cur, rfl, ?_, hx⟩) (by simp only [List.length_append, List.length_cons, List.length_nil]; omega)
      rcases hc with ⟨rfl, hc⟩ | ⟨c, rfl, hh, hp⟩
      · have : x ≠ 45 := fun e => h2 ⟨hc, .inr e⟩
        simpa using this
      · rw [List.append_assoc]
        cases c with
        | nil => simpa using hh
        | cons a c => simpa using hh
theorem okC_of : ∀ (t : List UInt8) (p : UInt8), (∀ b ∈ t, b = 46 ∨ hostB b = true) → (∀ (i : Nat) (a b : UInt8), (p :: t)[i]? = some a → t[i]? = some b → ¬ (a = 46 ∧ (b = 46 ∨ b = 45)) ∧ ¬ (a = 45 ∧ b = 46)) → (∀ a : UInt8, (p :: t).getLast? = some a → a ≠ 45 ∧ a ≠ 46) → okC p t
  | [], p, _, _, hl => hl p rfl
  | x :: xs, p, hb, ha, hl => by
    obtain ⟨h1, h2⟩ := ha 0 p x rfl rfl
    refine ⟨hb x List.mem_cons_self, h1, h2, okC_of xs x (fun b hm => hb b (List.mem_cons_of_mem _ hm)) (fun i a b h3 h4 => ha (i + 1) a b (by simpa using h3) (by simpa using h4)) (fun a h => hl a ?_)⟩
    rw [List.getLast?_cons_cons]
    exact h
end Go.Proofs.YtffngbjnbigipaaGreatDoor

/- What the law's Made makes may be: its domain, its local part. Plain Lean. -/
namespace Go.Proofs.YtffngbjnbigipaaGreatDoor
open Go.RowKit Go.Lib
set_option linter.unusedSimpArgs false
set_option linter.unusedVariables false
set_option linter.unnecessarySimpa false
set_option maxRecDepth 100000

theorem rw2_len (p q a b : UInt8) : ∀ s : List UInt8, (rw2 p q [a, b] s).length = s.length
  | [] => rfl
  | [x] => rfl
  | x :: y :: l => by
    rw [rw2]
    split
    · simp [rw2_len p q a b l]
    · simp [rw2_len p q a b (y :: l)]
theorem rep1_eq (y : List UInt8) : rep1 y = rw2 45 46 [120, 46] (namL y ++ [46]) := repl_rw2 45 46 [120, 46] _ (by decide)
theorem rep2_eq (y : List UInt8) : rep2 y = rw2 46 45 [46, 121] (rep1 y) := repl_rw2 46 45 [46, 121] _ (by decide)
theorem rep3_eq (y : List UInt8) : rep3 y = rw2 46 46 [46, 122, 46] (rep2 y) := repl_rw2 46 46 [46, 122, 46] _ (by decide)
theorem tab_not : ∀ j < 14, tabM.getD j 0 ≠ 46 := by decide
theorem tab_host : ∀ j < 14, hostB (tabM.getD j 0) = true := by decide
theorem nam_get (y : List UInt8) (i : Nat) (h : i < (namL y).length) : ∃ b, (namL y)[i]? = some (namB i b) := by
  have h' : i < (y.take 60).length := by unfold namL at h; simpa using h
  refine ⟨(y.take 60)[i], ?_⟩
  unfold namL
  rw [List.getElem?_mapIdx, List.getElem?_eq_getElem h']
  rfl
theorem s0_dot (y : List UInt8) (i : Nat) : (namL y ++ [46])[i]? = some 46 ↔ (i < (namL y).length ∧ i % 9 = 8) ∨ i = (namL y).length := by
  by_cases h : i < (namL y).length
  · rw [List.getElem?_append_left h]
    obtain ⟨b, hb⟩ := nam_get y i h
    rw [hb]
    by_cases h8 : i % 9 = 8
    · unfold namB
      rw [if_pos h8]
      exact ⟨fun _ => .inl ⟨h, h8⟩, fun _ => rfl⟩
    · unfold namB
      rw [if_neg h8]
      refine ⟨fun e => absurd (Option.some.inj e) (tab_not _ (Nat.mod_lt _ (by decide))), fun e => ?_⟩
      rcases e with e | e
      · exact absurd e.2 h8
      · omega
  · rw [List.getElem?_append_right (by omega)]
    by_cases he : i = (namL y).length
    · subst he
      exact ⟨fun _ => .inr rfl, fun _ => by simp⟩
    · rw [List.getElem?_eq_none (by simp; omega)]
      refine ⟨fun e => (by cases e), fun e => ?_⟩
      rcases e with e | e
      · exact absurd e.1 h
      · exact absurd e he
theorem s1_val {s : List UInt8} {i : Nat} {c : UInt8} (h : (rw2 45 46 [120, 46] s)[i]? = some c) (hc : c ≠ 120) : s[i]? = some c ∧ ¬ (c = 45 ∧ s[i + 1]? = some 46) := by
  rw [step1_get] at h
  cases hs : s[i]? with
  | none => rw [hs] at h; cases h
  | some a =>
    rw [hs] at h
    simp only [Option.map_some, Option.some.injEq] at h
    by_cases hp : a = 45 ∧ s[i + 1]? = some 46
    · rw [if_pos hp] at h; exact absurd h.symm hc
    · rw [if_neg hp] at h
      subst h
      exact ⟨rfl, hp⟩
theorem s1_dot (s : List UInt8) (i : Nat) : (rw2 45 46 [120, 46] s)[i]? = some 46 ↔ s[i]? = some 46 := by
  refine ⟨fun h => (s1_val h (by decide)).1, fun h => ?_⟩
  rw [step1_get, h]
  rfl
theorem s2_val {s : List UInt8} {i : Nat} {c : UInt8} (h : (rw2 46 45 [46, 121] s)[i]? = some c) (hc : c ≠ 121) : s[i]? = some c ∧ ∀ j : Nat, i = j + 1 → ¬ (c = 45 ∧ s[j]? = some 46) := by
  cases i with
  | zero =>
    rw [(step2_get s).1] at h
    exact ⟨h, fun j hj => by omega⟩
  | succ i =>
    rw [(step2_get s).2] at h
    cases hs : s[i + 1]? with
    | none => rw [hs] at h; cases h
    | some a =>
      rw [hs] at h
      simp only [Option.map_some, Option.some.injEq] at h
      by_cases hp : a = 45 ∧ s[i]? = some 46
      · rw [if_pos hp] at h; exact absurd h.symm hc
      · rw [if_neg hp] at h
        subst h
        exact ⟨rfl, fun j hj => by obtain rfl : i = j := by omega
                                   exact hp⟩
theorem s2_dot (s : List UInt8) (i : Nat) : (rw2 46 45 [46, 121] s)[i]? = some 46 ↔ s[i]? = some 46 := by
  refine ⟨fun h => (s2_val h (by decide)).1, fun h => ?_⟩
  cases i with
  | zero => rw [(step2_get s).1]; exact h
  | succ i =>
    rw [(step2_get s).2, h]
    rfl
/-- the bytes behind the first two replacings: where the dots stand, who stands by them. -/
structure Mid (n : Nat) (s : List UInt8) : Prop where
  len : s.length = n + 1
  dot : ∀ i : Nat, s[i]? = some 46 ↔ (i < n ∧ i % 9 = 8) ∨ i = n
  a : ∀ i : Nat, ¬ (s[i]? = some 45 ∧ s[i + 1]? = some 46)
  b : ∀ i : Nat, ¬ (s[i]? = some 46 ∧ s[i + 1]? = some 45)
  host : ∀ c ∈ s, c = 46 ∨ hostB c = true
theorem rep2_mid (y : List UInt8) : Mid (namL y).length (rep2 y) := by
  have hd1 : ∀ i : Nat, (rep1 y)[i]? = some 46 ↔ (namL y ++ [46])[i]? = some 46 := fun i => by rw [rep1_eq]; exact s1_dot _ i
  have hd2 : ∀ i : Nat, (rep2 y)[i]? = some 46 ↔ (namL y ++ [46])[i]? = some 46 := fun i => by rw [rep2_eq, s2_dot]; exact hd1 i
  refine ⟨by rw [rep2_eq, rw2_len, rep1_eq, rw2_len]; simp, fun i => (hd2 i).trans (s0_dot y i), fun i h => ?_, fun i h => ?_, ?_⟩
  · have h1 := h.1
    rw [rep2_eq] at h1
    have h2 := (s2_val h1 (by decide)).1
    rw [rep1_eq] at h2
    exact (s1_val h2 (by decide)).2 ⟨rfl, (hd2 (i + 1)).1 h.2⟩
  · have h1 := h.2
    rw [rep2_eq] at h1
    exact (s2_val h1 (by decide)).2 i rfl ⟨rfl, (hd1 i).2 ((hd2 i).1 h.1)⟩
  · unfold rep2 rep1
    refine repl_all (fun c => c = 46 ∨ hostB c = true) (repl_all _ ?_ (by decide)) (by decide)
    intro c hc
    rcases List.mem_append.1 hc with hc | hc
    · unfold namL at hc
      obtain ⟨i, h, rfl⟩ := List.mem_mapIdx.1 hc
      unfold namB
      split
      · exact .inl rfl
      · exact .inr (tab_host _ (Nat.mod_lt _ (by decide)))
    · exact .inl (List.mem_singleton.1 hc)
theorem trim_dot (l : List UInt8) : Lib.trimSuffix (l ++ [46]) [46] = l := by
  unfold Lib.trimSuffix
  rw [if_pos (suf_app l [46])]
  simp
theorem take_get {s : List UInt8} {n i : Nat} {c : UInt8} (h : (s.take n)[i]? = some c) : i < n ∧ s[i]? = some c := by
  rw [List.getElem?_take] at h
  split at h
  · exact ⟨by assumption, h⟩
  · cases h
theorem take_last {s : List UInt8} {n : Nat} (hl : s.length = n + 1) (hd : s[n]? = some 46) : s = s.take n ++ [46] := by
  have h1 : s.take (n + 1) = s := List.take_of_length_le (by omega)
  have h2 := List.take_add_one (l := s) (i := n)
  rw [h1, hd] at h2
  exact h2
theorem mid_pairs {n : Nat} {s : List UInt8} (h : Mid n s) {i : Nat} {a b : UInt8} (h1 : (s.take n)[i]? = some a) (h2 : (s.take n)[i + 1]? = some b) : ¬ (a = 46 ∧ (b = 46 ∨ b = 45)) ∧ ¬ (a = 45 ∧ b = 46) := by
  obtain ⟨l1, g1⟩ := take_get h1
  obtain ⟨l2, g2⟩ := take_get h2
  refine ⟨?_, ?_⟩
  · rintro ⟨rfl, rfl | rfl⟩
    · have d1 := (h.dot i).1 g1
      have d2 := (h.dot (i + 1)).1 g2
      omega
    · exact h.b i ⟨g1, g2⟩
  · rintro ⟨rfl, rfl⟩
    exact h.a i ⟨g1, g2⟩
/-- what is left behind the last replacing. -/
theorem mid_end {n : Nat} {s : List UInt8} (h : Mid n s) : ∃ e : List UInt8, Lib.trimSuffix (rw2 46 46 [46, 122, 46] s) [46] = s.take n ++ e ∧ (e = [122] ∨ e = [] ∧ ¬ (n % 9 = 0 ∧ 0 < n)) := by
  have hs := take_last h.len ((h.dot n).2 (.inr rfl))
  by_cases hn : n % 9 = 0 ∧ 0 < n
  · obtain ⟨m, rfl⟩ : ∃ m, n = m + 1 := ⟨n - 1, by omega⟩
    have hm : s[m]? = some 46 := (h.dot m).2 (.inl ⟨by omega, by omega⟩)
    have ht : s.take (m + 1) = s.take m ++ [46] := by
      rw [List.take_add_one, hm]
      rfl
    refine ⟨[122], ?_, .inl rfl⟩
    have hs2 : s = s.take m ++ [46, 46] := by
      rw [ht] at hs
      rw [List.append_assoc] at hs
      exact hs
    have h3 := step3_end (s.take m) (fun i hi => by
      rw [← ht] at hi
      exact (mid_pairs h hi.1 hi.2).1 ⟨rfl, .inl rfl⟩)
    rw [← hs2] at h3
    rw [h3, show s.take m ++ [46, 122, 46] = (s.take m ++ [46, 122]) ++ [46] by simp, trim_dot, ht]
    simp
  · refine ⟨[], ?_, .inr ⟨rfl, hn⟩⟩
    have h3 := step3_none s (fun i hi => by
      have d1 := (h.dot i).1 hi.1
      have d2 := (h.dot (i + 1)).1 hi.2
      omega)
    rw [h3]
    conv => lhs; rw [hs]
    rw [trim_dot, List.append_nil]
theorem dom_ok (y : List UInt8) : domL (domM y) = 0 := by
  have hm := rep2_mid y
  have hn := nam_len y
  obtain ⟨e, he, hcase⟩ := mid_end hm
  generalize (namL y).length = n at hm hn he hcase
  have hd : domM y = 100 :: ((rep2 y).take n ++ e) := by
    unfold domM
    rw [rep3_eq, he]
  rw [hd]
  generalize rep2 y = s at hm
  have hel : e.length ≤ 1 := by rcases hcase with rfl | ⟨rfl, _⟩ <;> simp
  have htl : (s.take n).length = n := by rw [List.length_take, hm.len]; omega
  have hlen : ((s.take n) ++ e).length ≤ 61 := by rw [List.length_append, htl]; omega
  have hok : okC 100 (s.take n ++ e) := by
    refine okC_of _ 100 ?_ ?_ ?_
    · intro c hc
      rcases List.mem_append.1 hc with hc | hc
      · exact hm.host c (List.mem_of_mem_take hc)
      · rcases hcase with rfl | ⟨rfl, _⟩
        · obtain rfl := List.mem_singleton.1 hc
          exact .inr (by decide)
        · cases hc
    · intro i a b h1 h2
      cases i with
      | zero =>
        simp only [List.getElem?_cons_zero, Option.some.injEq] at h1
        subst h1
        exact ⟨fun h => absurd h.1 (by decide), fun h => absurd h.1 (by decide)⟩
      | succ i =>
        simp only [List.getElem?_cons_succ] at h1
        by_cases hi : i + 1 < n
        · rw [List.getElem?_append_left (by omega)] at h1 h2
          exact mid_pairs hm h1 h2
        · rw [List.getElem?_append_right (by omega)] at h2
          rcases hcase with rfl | ⟨rfl, _⟩
          · have hb : b ∈ [(122 : UInt8)] := List.mem_of_getElem? h2
            obtain rfl := List.mem_singleton.1 hb
            exact ⟨fun h => by rcases h.2 with h | h <;> exact absurd h (by decide), fun h => absurd h.2 (by decide)⟩
          · simp at h2
    · intro a ha
      rcases hcase with rfl | ⟨rfl, hnn⟩
      · rw [show (100 : UInt8) :: (s.take n ++ [122]) = (100 :: s.take n) ++ [122] by simp, List.getLast?_append] at ha
        simp only [List.getLast?_singleton, Option.some_or, Option.some.injEq] at ha
        subst ha
        exact ⟨by decide, by decide⟩
      · rw [List.append_nil] at ha
        rcases Nat.eq_zero_or_pos n with rfl | hpos
        · simp only [List.take_zero, List.getLast?_singleton, Option.some.injEq] at ha
          subst ha
          exact ⟨by decide, by decide⟩
        · obtain ⟨m, rfl⟩ : ∃ m, n = m + 1 := ⟨n - 1, by omega⟩
          have hne : s.take (m + 1) ≠ [] := by
            intro h
            rw [h] at htl
            simp at htl
          rw [List.getLast?_cons, List.getLast?_eq_getElem?, htl] at ha
          simp only [Nat.add_sub_cancel] at ha
          cases hx : (s.take (m + 1))[m]? with
          | none =>
            rw [List.getElem?_eq_none_iff] at hx
            omega
          | some c =>
            rw [hx] at ha
            simp only [Option.getD_some, Option.some.injEq] at ha
            subst ha
            obtain ⟨_, hg⟩ := take_get hx
            refine ⟨?_, ?_⟩
            · rintro rfl
              exact hm.a m ⟨hg, (hm.dot (m + 1)).2 (.inr rfl)⟩
            · rintro rfl
              have := (hm.dot m).1 hg
              omega
  generalize s.take n ++ e = t at hlen hok
  unfold domL
  rw [if_neg (by simp), ← domGo_domP, decide_eq_false (by simp only [List.length_cons]; omega)]
  unfold domGo
  rw [if_neg (by decide), if_pos (by decide)]
  exact okC_go t _ 100 hok (.inr ⟨[], rfl, by decide, by decide⟩) (by simp only [List.nil_append, List.length_cons, List.length_nil]; omega)
theorem loc_plain (b : UInt8) : plainB (locB b).toNat = true := byte_all (fun b => plainB (locB b).toNat) (by decide) b
/-- what Made makes may be. -/
theorem made_may (x y : List UInt8) : mayL (locL x, domM y) = true := by
  unfold mayL
  simp only [Bool.and_eq_true, decide_eq_true_eq]
  refine ⟨⟨⟨?_, loc_len x⟩, ?_⟩, dom_ok y⟩
  · unfold locL
    split
    · rfl
    · rename_i h
      cases hx : x.take 64 with
      | nil => exact absurd hx h
      | cons a l => rfl
  · unfold plainL locL
    split
    · decide
    · rw [List.all_eq_true]
      intro b hb
      obtain ⟨c, _, rfl⟩ := List.mem_map.1 hb
      exact loc_plain c
end Go.Proofs.YtffngbjnbigipaaGreatDoor

/- Normal forms of addresses: they may be; who is the same. Plain Lean. -/
namespace Go.Proofs.YtffngbjnbigipaaGreatDoor
open Go.RowKit Go.Lib
set_option linter.unusedSimpArgs false
set_option linter.unusedVariables false
set_option linter.unnecessarySimpa false
set_option maxRecDepth 100000

theorem low_idemB (b : UInt8) : lowB (lowB b) = lowB b := by
  have := byte_all (fun b => lowB (lowB b) == lowB b) (by decide) b
  simpa using this
theorem low_idem (l : List UInt8) : lowL (lowL l) = lowL l := by
  unfold lowL
  rw [List.map_map]
  exact List.map_congr_left fun b _ => low_idemB b
theorem low_host (b : UInt8) : hostB (lowB b) = hostB b := by
  have := byte_all (fun b => hostB (lowB b) == hostB b) (by decide) b
  simpa using this
theorem low_dash (b : UInt8) : (lowB b == 45) = (b == 45) := by
  have := byte_all (fun b => (lowB b == 45) == (b == 45)) (by decide) b
  simpa using this
theorem low_dot (b : UInt8) : ((lowB b).toNat = 46) ↔ (b.toNat = 46) := by
  have := byte_all (fun b => decide ((lowB b).toNat = 46) == decide (b.toNat = 46)) (by decide) b
  simpa using this
theorem low_fix {b : UInt8} (h : digitB b = true ∨ b = 46 ∨ b = 91 ∨ b = 93) : lowB b = b := by
  have := byte_all (fun b => !(digitB b || b == 46 || b == 91 || b == 93) || (lowB b == b)) (by decide) b
  rcases h with h | rfl | rfl | rfl
  · simp only [h, Bool.true_or, Bool.not_true, Bool.false_or, beq_iff_eq] at this
    exact this
  · rfl
  · rfl
  · rfl
theorem low_edge (cur : List UInt8) : edgeB (lowL cur) = edgeB cur := by
  have hd : ∀ o : Option UInt8, (o.map lowB != some 45) = (o != some 45) := fun o => by
    cases o with
    | none => rfl
    | some b =>
      have := low_dash b
      simp only [Option.map_some, bne, Option.some_beq_some, this]
  unfold edgeB lowL
  rw [List.head?_map, List.getLast?_map, hd, hd]
  cases cur <;> rfl
theorem low_go : ∀ (l cur : List UInt8) (long : Bool), domGo (lowL cur) (lowL l) long = domGo cur l long
  | [], cur, long => by
    show domGo (lowL cur) [] long = _
    unfold domGo
    rw [low_edge]
    simp [lowL]
  | x :: xs, cur, long => by
    have e : lowL (x :: xs) = lowB x :: lowL xs := rfl
    rw [e]
    unfold domGo
    rw [low_edge, low_host]
    have hl : (lowL cur).length = cur.length := by simp [lowL]
    rw [hl]
    by_cases hx : x.toNat = 46
    · rw [if_pos hx, if_pos ((low_dot x).2 hx)]
      have := low_go xs [] (long || decide (63 < cur.length))
      rw [show lowL [] = [] from rfl] at this
      rw [this]
    · rw [if_neg hx, if_neg (fun h => hx ((low_dot x).1 h))]
      have := low_go xs (cur ++ [x]) long
      rw [low_app] at this
      rw [show lowL cur ++ [lowB x] = lowL cur ++ lowL [x] from rfl, this]
theorem pieces_mem (c : UInt8) : ∀ (l : List UInt8) (b : UInt8), b ∈ l → b = c ∨ ∃ p ∈ pieces c l, b ∈ p
  | x :: xs, b, h => by
    obtain ⟨q, qs, hq⟩ := pieces_form c xs
    by_cases hx : x = c
    · subst hx
      rw [pieces_eq]
      rcases List.mem_cons.1 h with rfl | h
      · exact .inl rfl
      · rcases pieces_mem x xs b h with h | ⟨p, hp, hb⟩
        · exact .inl h
        · exact .inr ⟨p, List.mem_cons_of_mem _ hp, hb⟩
    · rw [pieces_ne c x xs q qs hx hq]
      rcases List.mem_cons.1 h with rfl | h
      · exact .inr ⟨_, List.mem_cons_self, List.mem_cons_self⟩
      · rcases pieces_mem c xs b h with h | ⟨p, hp, hb⟩
        · exact .inl h
        · rw [hq] at hp
          rcases List.mem_cons.1 hp with rfl | hp
          · exact .inr ⟨_, List.mem_cons_self, List.mem_cons_of_mem _ hb⟩
          · exact .inr ⟨p, List.mem_cons_of_mem _ hp, hb⟩
theorem lit_low {l : List UInt8} (h : litL l = true) : lowL l = l := by
  unfold litL at h
  simp only [Bool.and_eq_true, decide_eq_true_eq, beq_iff_eq] at h
  obtain ⟨⟨⟨⟨h1, h2⟩, h3⟩, _⟩, h5⟩ := h
  cases l with
  | nil => simp at h1
  | cons x t =>
    simp only [List.head?_cons, Option.some.injEq] at h2
    subst h2
    have hne : t ≠ [] := by
      rintro rfl
      simp at h1
    have ht : t = t.dropLast ++ [93] := by
      rw [List.getLast?_cons] at h3
      have h4 := List.getLast?_eq_some_getLast hne
      rw [h4] at h3
      simp only [Option.getD_some, Option.some.injEq] at h3
      have := List.dropLast_concat_getLast hne
      rw [h3] at this
      exact this.symm
    have hin : ((91 :: t).drop 1).take ((91 :: t).length - 2) = t.dropLast := by
      simp only [List.drop_succ_cons, List.drop_zero, List.length_cons]
      rw [List.dropLast_eq_take]
      congr 1
    rw [hin] at h5
    have hb : ∀ b ∈ (91 :: t), lowB b = b := by
      intro b hb
      rcases List.mem_cons.1 hb with rfl | hb
      · rfl
      · rw [ht] at hb
        rcases List.mem_append.1 hb with hb | hb
        · rcases pieces_mem 46 _ b hb with rfl | ⟨p, hp, hbp⟩
          · rfl
          · have ho := List.all_eq_true.1 h5 p hp
            unfold octL numOk at ho
            simp only [Bool.and_eq_true] at ho
            exact low_fix (.inl (List.all_eq_true.1 ho.1.1.2 b hbp))
        · obtain rfl := List.mem_singleton.1 hb
          rfl
    unfold lowL
    conv => rhs; rw [← List.map_id (91 :: t)]
    exact List.map_congr_left fun b hm => hb b hm
theorem dom_low {d : List UInt8} (h : domL d = 0) : domL (lowL d) = 0 := by
  unfold domL at h
  by_cases hh : d.head? = some 91
  · rw [if_pos hh] at h
    cases hl : litL d with
    | true =>
      rw [lit_low hl]
      unfold domL
      rw [if_pos hh, hl]
      rfl
    | false =>
      rw [hl] at h
      cases h
  · rw [if_neg hh] at h
    have hh2 : ¬ (lowL d).head? = some 91 := by
      intro he
      apply hh
      cases d with
      | nil => cases he
      | cons x t =>
        have he' : lowB x = 91 := Option.some.inj he
        have := byte_all (fun b => !(lowB b == 91) || (b == 91)) (by decide) x
        rw [he'] at this
        simp only [beq_self_eq_true, Bool.not_true, Bool.false_or, beq_iff_eq] at this
        rw [this]
        rfl
    unfold domL
    rw [if_neg hh2, ← domGo_domP, show (lowL d).length = d.length by simp [lowL]]
    have := low_go d [] (decide (255 < d.length))
    rw [show lowL [] = [] from rfl] at this
    rw [this, domGo_domP]
    exact h
theorem norm_may {a : List UInt8 × List UInt8} (h : mayL a = true) : mayL (normL a) = true := by
  unfold mayL at h ⊢
  simp only [Bool.and_eq_true, decide_eq_true_eq] at h ⊢
  obtain ⟨⟨⟨h1, h2⟩, h3⟩, h4⟩ := h
  unfold normL
  simp only
  refine ⟨?_, dom_low h4⟩
  split
  · decide
  · exact ⟨⟨h1, h2⟩, h3⟩
theorem norm_idem (a : List UInt8 × List UInt8) : normL (normL a) = normL a := by
  unfold normL
  simp only [low_idem, Prod.mk.injEq, and_true]
  by_cases h : (lowL a.1 == pmL) = true
  · rw [if_pos h, low_pm, if_pos (by decide)]
  · rw [if_neg h, if_neg h]
theorem norm_loud {l d : List UInt8} (h : ∀ b ∈ d, asc b) : normL (l, Lib.toUpperA d) = normL (l, d) := by
  unfold normL
  simp only [low_upperL h]
theorem norm_same (l1 l2 d : List UInt8) : normL (l1, d) = normL (l2, d) ↔ (l1 = l2 ∨ (lowL l1 = pmL ∧ lowL l2 = pmL)) := by
  unfold normL
  simp only [Prod.mk.injEq, and_true]
  by_cases h1 : (lowL l1 == pmL) = true
  · have e1 : lowL l1 = pmL := by simpa using h1
    rw [if_pos h1]
    by_cases h2 : (lowL l2 == pmL) = true
    · have e2 : lowL l2 = pmL := by simpa using h2
      rw [if_pos h2]
      exact ⟨fun _ => .inr ⟨e1, e2⟩, fun _ => rfl⟩
    · rw [if_neg h2]
      refine ⟨fun e => ?_, fun e => ?_⟩
      · exfalso
        apply h2
        rw [← e, low_pm]
        decide
      · rcases e with rfl | ⟨_, e⟩
        · exact absurd h1 h2
        · exact absurd (by simpa using e) h2
  · rw [if_neg h1]
    by_cases h2 : (lowL l2 == pmL) = true
    · rw [if_pos h2]
      refine ⟨fun e => ?_, fun e => ?_⟩
      · exfalso
        apply h1
        rw [e, low_pm]
        decide
      · rcases e with rfl | ⟨e, _⟩
        · exact absurd h2 h1
        · exact absurd (by simpa using e) h1
    · rw [if_neg h2]
      refine ⟨fun e => .inl e, fun e => ?_⟩
      rcases e with rfl | ⟨e, _⟩
      · rfl
      · exact absurd (by simpa using e) h1
theorem fold_pm (y : UInt8) (h : y ∈ pmL) (x : UInt8) : Lib.foldEq x y = (lowB x == y) := by
  have : ∀ y ∈ pmL, ∀ n < 256, (Lib.foldEq (UInt8.ofNat n) y == (lowB (UInt8.ofNat n) == y)) = true := by decide +kernel
  have h2 := this y h x.toNat x.toNat_lt
  rw [UInt8.ofNat_toNat] at h2
  simpa using h2
theorem fold_low : ∀ (t : List UInt8), (∀ y ∈ t, y ∈ pmL) → ∀ l : List UInt8, Lib.equalFold l t = (lowL l == t)
  | [], _, [] => rfl
  | [], _, x :: l => by simp [Lib.equalFold, lowL]
  | y :: t, _, [] => by simp [Lib.equalFold, lowL]
  | y :: t, h, x :: l => by
    have ih := fold_low t (fun z hz => h z (List.mem_cons_of_mem _ hz)) l
    show (Lib.foldEq x y && Lib.equalFold l t) = (lowB x :: lowL l == y :: t)
    rw [ih, fold_pm y (h y List.mem_cons_self) x]
    rfl
theorem fold_post (l : List UInt8) : Lib.equalFold l pmL = (lowL l == pmL) := fold_low pmL (fun y h => h) l
end Go.Proofs.YtffngbjnbigipaaGreatDoor

/- Where the text of an address that may be stands in a list, the lists' reader reads it, and stops behind it. Plain Lean. -/
namespace Go.Proofs.YtffngbjnbigipaaGreatDoor
open Go.RowKit Go.Lib
set_option linter.unusedSimpArgs false
set_option linter.unusedVariables false
set_option linter.unnecessarySimpa false
set_option maxRecDepth 100000

/-- what stands behind is no byte of p's. -/
def Stops (p : UInt8 → Bool) (r : List UInt8) : Prop := ∀ c r', r = c :: r' → p c = false
theorem tw_all (p : UInt8 → Bool) : ∀ (x r : List UInt8), (∀ b ∈ x, p b = true) → Stops p r → tw p (x ++ r) = x.length
  | [], r, _, hr => by
    cases r with
    | nil => rfl
    | cons c r => exact tw_no p c r (hr c r rfl)
  | b :: x, r, h, hr => by
    rw [List.cons_append, tw_yes p b _ (h b List.mem_cons_self), tw_all p x r (fun c hc => h c (List.mem_cons_of_mem _ hc)) hr]
    rfl
theorem slc_drop {l T r : List UInt8} {k : Nat} (h : l.drop k = T ++ r) : slc l k (k + T.length) = T := by
  unfold slc
  rw [List.drop_take, h]
  simp
theorem get_drop {l x : List UInt8} {k : Nat} (h : l.drop k = x) (i : Nat) : l[k + i]? = x[i]? := by rw [← h, List.getElem?_drop]
theorem drop_more {l x y : List UInt8} {k : Nat} (h : l.drop k = x ++ y) : l.drop (k + x.length) = y := by
  rw [← List.drop_drop, h]
  simp
theorem lit_form {d : List UInt8} (h : litL d = true) : ∃ inner, d = 91 :: (inner ++ [93]) ∧ ∀ b ∈ inner, b = 46 ∨ digitB b = true := by
  unfold litL at h
  simp only [Bool.and_eq_true, decide_eq_true_eq, beq_iff_eq] at h
  obtain ⟨⟨⟨⟨h1, h2⟩, h3⟩, _⟩, h5⟩ := h
  cases d with
  | nil => simp at h1
  | cons x t =>
    simp only [List.head?_cons, Option.some.injEq] at h2
    subst h2
    have hne : t ≠ [] := by
      rintro rfl
      simp at h1
    have ht : t = t.dropLast ++ [93] := by
      rw [List.getLast?_cons] at h3
      have h4 := List.getLast?_eq_some_getLast hne
      rw [h4] at h3
      simp only [Option.getD_some, Option.some.injEq] at h3
      have := List.dropLast_concat_getLast hne
      rw [h3] at this
      exact this.symm
    have hin : ((91 :: t).drop 1).take ((91 :: t).length - 2) = t.dropLast := by
      simp only [List.drop_succ_cons, List.drop_zero, List.length_cons]
      rw [List.dropLast_eq_take]
      congr 1
    rw [hin] at h5
    refine ⟨t.dropLast, by rw [← ht], fun b hb => ?_⟩
    rcases pieces_mem 46 _ b hb with h | ⟨p, hp, hbp⟩
    · exact .inl h
    · have ho := List.all_eq_true.1 h5 p hp
      unfold octL numOk at ho
      simp only [Bool.and_eq_true] at ho
      exact .inr (List.all_eq_true.1 ho.1.1.2 b hbp)
theorem dom_chars {d : List UInt8} (h : domL d = 0) (hh : d.head? ≠ some 91) : d ≠ [] ∧ ∀ b ∈ d, hostdotB b = true := by
  unfold domL at h
  rw [if_neg hh] at h
  unfold domP at h
  cases ha : (pieces 46 d).all labelL with
  | false => rw [ha] at h; simp at h
  | true =>
    refine ⟨?_, fun b hb => ?_⟩
    · rintro rfl
      revert ha
      decide
    · rcases pieces_mem 46 _ b hb with rfl | ⟨p, hp, hbp⟩
      · decide
      · have ho := List.all_eq_true.1 ha p hp
        unfold labelL at ho
        simp only [Bool.and_eq_true] at ho
        have := List.all_eq_true.1 ho.2 b hbp
        unfold hostB at this
        unfold hostdotB
        rw [Bool.or_eq_true] at this
        rcases this with h | h
        · rw [h]; simp
        · rw [h]; simp
theorem digit_end (b : UInt8) (h : b = 46 ∨ digitB b = true) : notEnd b = true := by
  rcases h with rfl | h
  · decide
  · have := byte_all (fun b => !digitB b || notEnd b) (by decide) b
    simpa [h] using this
/-- a domain is read whole where what stands behind it is no byte of a domain. -/
theorem dom_read {l d r : List UInt8} {k : Nat} (h : l.drop k = d ++ r) (hd : domL d = 0) (hr : Stops hostdotB r) : domE l k = some (k + d.length) := by
  by_cases hh : d.head? = some 91
  · have hl : litL d = true := by
      unfold domL at hd
      rw [if_pos hh] at hd
      cases hx : litL d with
      | true => rfl
      | false => rw [hx] at hd; cases hd
    obtain ⟨inner, rfl, hin⟩ := lit_form hl
    have h0 : l[k]? = some 91 := by
      have := get_drop h 0
      simpa using this
    have ht : tw notEnd (l.drop k) = inner.length + 1 := by
      have e : (91 : UInt8) :: (inner ++ [93]) ++ r = (91 :: inner) ++ (93 :: r) := by simp
      rw [h, e, tw_all notEnd (91 :: inner) (93 :: r) ?_ ?_]
      · simp
      · intro b hb
        rcases List.mem_cons.1 hb with rfl | hb
        · decide
        · exact digit_end b (hin b hb)
      · intro c r' hc
        injection hc with h1 h2
        subst h1
        decide
    have hlen : k + inner.length + 2 ≤ l.length := by
      have := congrArg List.length h
      simp only [List.length_drop, List.length_append, List.length_cons, List.length_nil] at this
      omega
    unfold domE
    rw [if_pos h0, ht, if_pos (by omega)]
    simp only [List.length_cons, List.length_append, List.length_nil, Option.some.injEq]
    omega
  · obtain ⟨hne, hc⟩ := dom_chars hd hh
    have h0 : ¬ l[k]? = some 91 := by
      have := get_drop h 0
      rw [Nat.add_zero] at this
      rw [this]
      cases d with
      | nil => exact absurd rfl hne
      | cons x d =>
        simpa using hh
    have ht : tw hostdotB (l.drop k) = d.length := by rw [h]; exact tw_all hostdotB d r hc hr
    unfold domE
    rw [if_neg h0, ht, if_neg]
    intro h
    exact hne (List.eq_nil_of_length_eq_zero h)
/-- the local part as it stands in a text. -/
def wordT (x : List UInt8) : List UInt8 := if dotGo x true then x else quoteL x
theorem text_form {a : List UInt8 × List UInt8} (h : mayL a = true) : textL a = wordT a.1 ++ 64 :: a.2 := by
  unfold textL wordT
  rw [if_pos h]
  split <;> simp
theorem word_ne {a : List UInt8 × List UInt8} (h : mayL a = true) : 0 < (wordT a.1).length := by
  unfold mayL at h
  simp only [Bool.and_eq_true] at h
  unfold wordT
  split
  · cases ha : a.1 with
    | nil => rw [ha] at h; simp at h
    | cons x l => simp
  · simp [quoteL]
theorem word_read {l r : List UInt8} {a : List UInt8 × List UInt8} {k : Nat} (hm : mayL a = true) (h : l.drop k = wordT a.1 ++ 64 :: r) : wordE l k = some (k + (wordT a.1).length) := by
  have hpl : plainL a.1 = true := by
    unfold mayL at hm
    simp only [Bool.and_eq_true] at hm
    exact hm.1.2
  have hwn := word_ne hm
  unfold wordT at h hwn ⊢
  cases hd : dotGo a.1 true with
  | true =>
    rw [hd] at h hwn
    simp only [if_true] at h hwn ⊢
    have hx := dot_ne hd
    have hw : ∀ b ∈ a.1, wordB b = true := fun b hb => by
      unfold wordB
      rcases dot_mem _ _ hd b hb with h1 | h1
      · rw [UInt8.toNat_inj.1 (show b.toNat = (46 : UInt8).toNat from h1)]
        decide
      · rw [h1]; simp
    have h0 : ¬ l[k]? = some 34 := by
      have := get_drop h 0
      rw [Nat.add_zero] at this
      rw [this]
      cases ha : a.1 with
      | nil => rw [ha] at hwn; simp at hwn
      | cons x t =>
        rw [ha] at hx
        simp only [List.cons_append, List.getElem?_cons_zero, Option.some.injEq]
        exact (hx x List.mem_cons_self).1
    unfold wordE
    rw [if_neg h0, h, tw_all wordB a.1 (64 :: r) hw (fun c r' hc => by injection hc with h1 h2; subst h1; decide)]
  | false =>
    rw [hd] at h
    simp only [Bool.false_eq_true, if_false] at h ⊢
    have ea : quoteL a.1 ++ 64 :: r = 34 :: (escL a.1 ++ 34 :: 64 :: r) := by simp [quoteL]
    have h0 : l[k]? = some 34 := by
      have := get_drop h 0
      rw [Nat.add_zero] at this
      rw [this, ea]
      rfl
    have hq : quoted (34 :: (escL a.1 ++ 34 :: 64 :: r)) = (a.1, (escL a.1).length + 2, 0) := by
      unfold quoted
      simp only
      rw [if_pos (by decide), quot_esc a.1 (64 :: r) [] 1 hpl]
      simp only [List.nil_append, Prod.mk.injEq, true_and, and_true]
      omega
    unfold wordE
    rw [if_pos h0, h, ea, hq]
    simp [quoteL]
/-- THE CORE: an address's text is read as a spot, that address's. -/
theorem addr_read {l r : List UInt8} {a : List UInt8 × List UInt8} {k : Nat} {st : LSt} (hm : mayL a = true) (h : l.drop k = textL a ++ r) (hr : Stops hostdotB r) :
    wordE l k = some (k + (wordT a.1).length) ∧ l[k + (wordT a.1).length]? = some 64 ∧ 0 < (wordT a.1).length ∧
      addrE l k (k + (wordT a.1).length) st = some (k + (textL a).length, st.1 ++ [(k, k + (textL a).length, a.1, a.2)], st.2) := by
  have hf := text_form hm
  have h1 : l.drop k = wordT a.1 ++ 64 :: (a.2 ++ r) := by rw [h, hf]; simp
  have hd : domL a.2 = 0 := by
    unfold mayL at hm
    simp only [Bool.and_eq_true, decide_eq_true_eq] at hm
    exact hm.2
  have hw := word_ne hm
  have h64 : l[k + (wordT a.1).length]? = some 64 := by
    rw [get_drop h1]
    simp
  have h2 : l.drop (k + (wordT a.1).length + 1) = a.2 ++ r := by
    have := drop_more (x := wordT a.1 ++ [64]) (y := a.2 ++ r) (l := l) (k := k) (by rw [h1]; simp)
    simpa [Nat.add_assoc] using this
  have hde := dom_read h2 hd hr
  have hlen : k + (wordT a.1).length + 1 + a.2.length = k + (textL a).length := by rw [hf]; simp; omega
  refine ⟨word_read hm h1, h64, hw, ?_⟩
  unfold addrE
  rw [if_neg (by omega), if_neg (by rw [h64]; simp), hde]
  simp only [hlen, slc_drop h, text_parse a hm]
  simp
end Go.Proofs.YtffngbjnbigipaaGreatDoor

/- A list of addresses moved to another place of a text: the same members, at other places; how much is enough for the loops. -/
namespace Go.Proofs.YtffngbjnbigipaaGreatDoor
open Go.RowKit Go.Lib
set_option linter.unusedSimpArgs false
set_option linter.unusedVariables false

/-! the loops' bounds: enough is enough -/
theorem routeE_fuel : ∀ (f f' : Nat) (l : List UInt8) (k : Nat) (g : Bool), l.length - k < f → l.length - k < f' → routeE f l k g = routeE f' l k g
  | 0, _, _, _, _, h, _ => by omega
  | _, 0, _, _, _, _, h => by omega
  | f + 1, f' + 1, l, k, g, h, h' => by
    rw [routeE, routeE]
    split
    · rfl
    · rename_i h2
      have hk : k < l.length := at_lt (Classical.not_not.1 h2)
      split
      · rfl
      · rename_i t ht
        have := domE_le (by omega) ht
        split
        · rfl
        · split
          · rfl
          · split
            · exact routeE_fuel f f' l _ _ (by omega) (by omega)
            · rfl
theorem wordsE_fuel : ∀ (f f' : Nat) (l : List UInt8) (i m e : Nat), i ≤ l.length → l.length - i < f → l.length - i < f' → wordsE f l i m e = wordsE f' l i m e
  | 0, _, _, _, _, _, _, h, _ => by omega
  | _, 0, _, _, _, _, _, _, h => by omega
  | f + 1, f' + 1, l, i, m, e, hi, h, h' => by
    rw [wordsE, wordsE]
    split
    · rfl
    · rename_i k hk
      have h1 := wordE_le hi hk
      split
      · rfl
      · split
        · rfl
        · rename_i j hj
          have h2 := blankE_le h1.2 hj
          exact wordsE_fuel f f' l _ _ _ h2.2 (by omega) (by omega)
theorem memsE_fuel (mem : Nat → LSt → Option (Nat × LSt)) (l : List UInt8) (hI : InnerLe l mem) : ∀ (f f' : Nat) (k : Nat) (st : LSt), k ≤ l.length → l.length - k < f → l.length - k < f' → memsE mem l f k st = memsE mem l f' k st
  | 0, _, _, _, _, h, _ => by omega
  | _, 0, _, _, _, _, h => by omega
  | f + 1, f' + 1, k, st, hk, h, h' => by
    rw [memsE, memsE]
    split
    · rfl
    · rename_i k2 st2 hm
      have h1 := hI _ _ _ _ hk hm
      split
      · rename_i h3
        have := at_lt h3
        exact memsE_fuel mem l hI f f' _ _ (by omega) (by omega) (by omega)
      · rfl

/-! moved -/
theorem drop_sh (p l : List UInt8) (k : Nat) : (p ++ l).drop (p.length + k) = l.drop k := by
  rw [List.drop_append]; simp
theorem get_sh (p l : List UInt8) (k : Nat) : (p ++ l)[p.length + k]? = l[k]? := by
  rw [List.getElem?_append_right (by omega)]; simp
theorem slc_sh (p l : List UInt8) (a b : Nat) : slc (p ++ l) (p.length + a) (p.length + b) = slc l a b := by
  unfold slc
  rw [List.take_append, List.take_of_length_le (by omega), show p.length + b - p.length = b by omega, drop_sh]
def shSp (n : Nat) (x : Sp) : Sp := (n + x.1, n + x.2.1, x.2.2)
def shT (n : Nat) (pre : List Sp) (g : Bool) (st : LSt) : LSt := (pre ++ st.1.map (shSp n), g || st.2)
def shR (n : Nat) (pre : List Sp) (g : Bool) : Option (Nat × LSt) → Option (Nat × LSt) := Option.map fun x => (n + x.1, shT n pre g x.2)
theorem domE_sh (p l : List UInt8) (k : Nat) : domE (p ++ l) (p.length + k) = (domE l k).map (p.length + ·) := by
  unfold domE
  rw [get_sh, drop_sh, List.length_append]
  split
  · by_cases h : k + tw notEnd (l.drop k) < l.length
    · rw [if_pos (by omega), if_pos h]; simp; omega
    · rw [if_neg (by omega), if_neg h]; rfl
  · split
    · rfl
    · simp; omega
theorem wordE_sh (p l : List UInt8) (k : Nat) : wordE (p ++ l) (p.length + k) = (wordE l k).map (p.length + ·) := by
  unfold wordE
  rw [get_sh, drop_sh]
  split
  · split
    · simp; omega
    · rfl
  · simp; omega
theorem blankE_sh (p l : List UInt8) (k : Nat) : blankE (p ++ l) (p.length + k) = (blankE l k).map (p.length + ·) := by
  unfold blankE
  rw [drop_sh]
  split
  · simp; omega
  · rfl
theorem addrE_sh (p l : List UInt8) (pre : List Sp) (g : Bool) (a b : Nat) (st : LSt) : addrE (p ++ l) (p.length + a) (p.length + b) (shT p.length pre g st) = shR p.length pre g (addrE l a b st) := by
  unfold addrE
  rw [get_sh, show p.length + b + 1 = p.length + (b + 1) by omega, domE_sh]
  by_cases h1 : b ≤ a
  · rw [if_pos (by omega), if_pos h1]; rfl
  · rw [if_neg (by omega), if_neg h1]
    split
    · rfl
    · cases hd : domE l (b + 1) with
      | none => rfl
      | some t =>
        simp only [Option.map_some]
        rw [slc_sh]
        split
        · rfl
        · simp [shR, shT, shSp, Bool.or_assoc]
theorem routeE_sh (p l : List UInt8) (g : Bool) : ∀ (f k : Nat) (h : Bool), routeE f (p ++ l) (p.length + k) (g || h) = (routeE f l k h).map fun x => (p.length + x.1, g || x.2)
  | 0, _, _ => rfl
  | f + 1, k, h => by
    rw [routeE, routeE, get_sh, show p.length + k + 1 = p.length + (k + 1) by omega, domE_sh]
    split
    · rfl
    · cases hd : domE l (k + 1) with
      | none => rfl
      | some t =>
        simp only [Option.map_some]
        rw [slc_sh, get_sh]
        split
        · rfl
        · split
          · simp [Bool.or_assoc]; omega
          · split
            · rw [show p.length + t + 1 = p.length + (t + 1) by omega, Bool.or_assoc]
              exact routeE_sh p l g f (t + 1) _
            · rfl
theorem rouE_sh (p l : List UInt8) (g : Bool) (k : Nat) (hk : k ≤ l.length) (h : Bool) : rouE (p ++ l) (p.length + k) (g || h) = (rouE l k h).map fun x => (p.length + x.1, g || x.2) := by
  unfold rouE
  rw [get_sh]
  split
  · rw [routeE_fuel ((p ++ l).length + 1) (l.length + 1) (p ++ l) (p.length + k) _ (by simp; omega) (by simp; omega), routeE_sh]
  · rfl
theorem closE_sh (p l : List UInt8) (pre : List Sp) (g : Bool) (k : Nat) (st : LSt) : closE (p ++ l) (p.length + k) (shT p.length pre g st) = shR p.length pre g (closE l k st) := by
  unfold closE
  rw [blankE_sh]
  cases hb : blankE l k with
  | none => rfl
  | some k' =>
    simp only [Option.map_some]
    rw [get_sh]
    split
    · simp [shR]; omega
    · rfl
theorem angE2_sh (p l : List UInt8) (pre : List Sp) (g : Bool) (k : Nat) (st : LSt) : angE2 (p ++ l) (p.length + k) (shT p.length pre g st) = shR p.length pre g (angE2 l k st) := by
  unfold angE2
  rw [blankE_sh]
  cases hb : blankE l k with
  | none => rfl
  | some k3 =>
    simp only [Option.map_some]
    rw [wordE_sh]
    cases hw : wordE l k3 with
    | none => rfl
    | some e =>
      simp only [Option.map_some]
      rw [addrE_sh]
      cases ha : addrE l k3 e st with
      | none => rfl
      | some x =>
        obtain ⟨k4, st4⟩ := x
        exact closE_sh p l pre g k4 st4
theorem angleE_sh (p l : List UInt8) (pre : List Sp) (g : Bool) (k : Nat) (hk : k ≤ l.length) (st : LSt) : angleE (p ++ l) (p.length + k) (shT p.length pre g st) = shR p.length pre g (angleE l k st) := by
  unfold angleE
  rw [blankE_sh]
  cases hb : blankE l k with
  | none => rfl
  | some k1 =>
    simp only [Option.map_some]
    have h1 := blankE_le hk hb
    rw [show (shT p.length pre g st).2 = (g || st.2) from rfl, rouE_sh p l g k1 h1.2]
    cases hr : rouE l k1 st.2 with
    | none => rfl
    | some x =>
      obtain ⟨k2, long⟩ := x
      exact angE2_sh p l pre g k2 (st.1, long)
theorem wordsE_sh (p l : List UInt8) : ∀ (f i m e : Nat), wordsE f (p ++ l) (p.length + i) m (p.length + e) = (wordsE f l i m e).map fun x => (p.length + x.1, x.2.1, p.length + x.2.2)
  | 0, _, _, _ => rfl
  | f + 1, i, m, e => by
    rw [wordsE, wordsE, wordE_sh]
    cases hw : wordE l i with
    | none => rfl
    | some k =>
      simp only [Option.map_some]
      by_cases h : k = i
      · rw [if_pos (by omega), if_pos h]; rfl
      · rw [if_neg (by omega), if_neg h, blankE_sh]
        cases hb : blankE l k with
        | none => rfl
        | some j => exact wordsE_sh p l f j (m + 1) k
def InnerSh (p l : List UInt8) (pre : List Sp) (g : Bool) (i1 i2 : Nat → LSt → Option (Nat × LSt)) : Prop := ∀ k st, k ≤ l.length → i1 (p.length + k) (shT p.length pre g st) = shR p.length pre g (i2 k st)
theorem afterE_sh (p l : List UInt8) (pre : List Sp) (g : Bool) {i1 i2 : Nat → LSt → Option (Nat × LSt)} (hI : InnerSh p l pre g i1 i2) (within : Bool) (fr i m e : Nat) (st : LSt) :
    afterE i1 within (p ++ l) (p.length + fr) (p.length + i) m (p.length + e) (shT p.length pre g st) = shR p.length pre g (afterE i2 within l fr i m e st) := by
  unfold afterE
  rw [get_sh]
  split
  · by_cases h : m = 1 ∧ e = i
    · rw [if_pos h, if_pos ⟨h.1, by rw [h.2]⟩]; exact addrE_sh p l pre g fr i st
    · rw [if_neg h, if_neg (fun hh => h ⟨hh.1, by omega⟩)]; rfl
  · split
    · rename_i h3
      have := at_lt h3
      exact angleE_sh p l pre g (i + 1) (by omega) st
    · split
      · rename_i h3
        have := at_lt h3.1
        exact hI (i + 1) st (by omega)
      · split
        · rfl
        · rfl
theorem lastE_sh (p l : List UInt8) (pre : List Sp) (g : Bool) (x : Option (Nat × LSt)) : lastE (p ++ l) (shR p.length pre g x) = shR p.length pre g (lastE l x) := by
  cases x with
  | none => rfl
  | some x =>
    obtain ⟨k, st⟩ := x
    simp only [shR, Option.map_some, lastE]
    rw [blankE_sh]
    cases hb : blankE l k <;> rfl
theorem memE_sh (p l : List UInt8) (pre : List Sp) (g : Bool) {i1 i2 : Nat → LSt → Option (Nat × LSt)} (hI : InnerSh p l pre g i1 i2) (within : Bool) : InnerSh p l pre g (memE i1 within (p ++ l)) (memE i2 within l) := by
  intro k st hk
  unfold memE
  rw [blankE_sh]
  cases hb : blankE l k with
  | none => rfl
  | some fr =>
    have h1 := blankE_le hk hb
    simp only [Option.map_some]
    rw [wordsE_fuel ((p ++ l).length + 1) (l.length + 1) (p ++ l) (p.length + fr) _ _ (by simp; omega) (by simp; omega) (by simp; omega), wordsE_sh]
    cases hw : wordsE (l.length + 1) l fr 0 fr with
    | none => rfl
    | some x =>
      obtain ⟨i, m, e⟩ := x
      simp only [Option.map_some]
      rw [afterE_sh p l pre g hI, lastE_sh]
theorem memsE_sh (p l : List UInt8) (pre : List Sp) (g : Bool) {i1 i2 : Nat → LSt → Option (Nat × LSt)} (hL : InnerLe l i2) (hI : InnerSh p l pre g i1 i2) : ∀ (f k : Nat) (st : LSt), k ≤ l.length →
    memsE i1 (p ++ l) f (p.length + k) (shT p.length pre g st) = shR p.length pre g (memsE i2 l f k st)
  | 0, _, _, _ => rfl
  | f + 1, k, st, hk => by
    rw [memsE, memsE, hI k st hk]
    cases hm : i2 k st with
    | none => rfl
    | some x =>
      obtain ⟨k2, st2⟩ := x
      have h1 := hL _ _ _ _ hk hm
      simp only [shR, Option.map_some]
      rw [get_sh]
      split
      · rename_i h3
        have := at_lt h3
        rw [show p.length + k2 + 1 = p.length + (k2 + 1) by omega]
        exact memsE_sh p l pre g hL hI f (k2 + 1) st2 (by omega)
      · rfl
theorem none_sh (p l : List UInt8) (pre : List Sp) (g : Bool) : InnerSh p l pre g (fun _ _ => none) (fun _ _ => none) := fun _ _ _ => rfl
theorem memT_sh (p l : List UInt8) (pre : List Sp) (g : Bool) : InnerSh p l pre g (memT (p ++ l)) (memT l) := memE_sh p l pre g (none_sh p l pre g) true
theorem memsT_sh (p l : List UInt8) (pre : List Sp) (g : Bool) : InnerSh p l pre g (memsT (p ++ l)) (memsT l) := by
  intro k st hk
  unfold memsT
  rw [memsE_fuel _ (p ++ l) (memT_le (p ++ l)) ((p ++ l).length + 1) (l.length + 1) _ _ (by simp; omega) (by simp; omega) (by simp; omega)]
  exact memsE_sh p l pre g (memT_le l) (memT_sh p l pre g) _ k st hk
theorem innerE_sh (p l : List UInt8) (pre : List Sp) (g : Bool) : InnerSh p l pre g (innerE (p ++ l)) (innerE l) := by
  intro k st hk
  unfold innerE
  rw [memsT_sh p l pre g k st hk]
  cases hm : memsT l k st with
  | none => rfl
  | some x =>
    obtain ⟨k2, st2⟩ := x
    simp only [shR, Option.map_some]
    rw [get_sh]
    split <;> rfl
theorem memF_sh (p l : List UInt8) (pre : List Sp) (g : Bool) : InnerSh p l pre g (memF (p ++ l)) (memF l) := memE_sh p l pre g (innerE_sh p l pre g) false
theorem memsF_sh (p l : List UInt8) (pre : List Sp) (g : Bool) : InnerSh p l pre g (memsF (p ++ l)) (memsF l) := by
  intro k st hk
  unfold memsF
  rw [memsE_fuel _ (p ++ l) (memF_le (p ++ l)) ((p ++ l).length + 1) (l.length + 1) _ _ (by simp; omega) (by simp; omega) (by simp; omega)]
  exact memsE_sh p l pre g (memF_le l) (memF_sh p l pre g) _ k st hk
end Go.Proofs.YtffngbjnbigipaaGreatDoor

/- A list of addresses with more text behind it: white space with comments, or a comma: the same members stand ahead. -/
namespace Go.Proofs.YtffngbjnbigipaaGreatDoor
open Go.RowKit Go.Lib
set_option linter.unusedSimpArgs false
set_option linter.unusedVariables false

/-! comments, quoted words and white space that end ahead of what is behind -/
theorem com_app (r : List UInt8) : ∀ (l : List UInt8) (deep k : Nat), (comGo l deep k).2 = 0 → comGo (l ++ r) deep k = comGo l deep k
  | [], _, _, h => by simp [comGo] at h
  | [c], deep, k, h => by
    rw [com_step] at h
    rw [List.singleton_append, com_step, com_step c []]
    split at h
    · split at h <;> simp [comGo] at h
    · rename_i h1
      rw [if_neg h1, if_neg h1]
      split at h
      · rename_i h2
        rw [if_pos h2, if_pos h2]
        split at h
        · rename_i h3
          rw [if_pos h3, if_pos h3]
        · simp [comGo] at h
      · rename_i h2
        split at h
        · simp at h
        · split at h <;> simp [comGo] at h
  | c :: d :: l, deep, k, h => by
    rw [com_step] at h
    rw [List.cons_append, com_step, com_step c (d :: l)]
    split at h
    · rename_i h1
      rw [if_pos h1, if_pos h1]
      split at h
      · simp at h
      · rename_i h2
        rw [if_neg h2, if_neg h2]
        exact com_app r (d :: l) _ _ h
    · rename_i h1
      rw [if_neg h1, if_neg h1]
      split at h
      · rename_i h2
        rw [if_pos h2, if_pos h2]
        split at h
        · rename_i h3
          rw [if_pos h3, if_pos h3]
        · rename_i h3
          rw [if_neg h3, if_neg h3]
          exact com_app r (d :: l) _ _ h
      · rename_i h2
        rw [if_neg h2, if_neg h2]
        split at h
        · rename_i h3
          rw [if_pos h3, if_pos h3]
          simp only [List.cons_append] at h ⊢
          split at h
          · rename_i h4
            rw [if_pos h4, if_pos h4]
            exact com_app r l _ _ h
          · simp at h
        · rename_i h3
          rw [if_neg h3, if_neg h3]
          split at h
          · rename_i h4
            rw [if_pos h4, if_pos h4]
            exact com_app r (d :: l) _ _ h
          · simp at h
theorem commentL_app (l r : List UInt8) (h : (commentL l).2 = 0) : commentL (l ++ r) = commentL l := by
  cases l with
  | nil => simp [commentL] at h
  | cons c l =>
    unfold commentL at h ⊢
    by_cases h1 : (c :: l).head? = some 40
    · have h2 : (c :: l ++ r).head? = some 40 := h1
      rw [if_pos h1] at h
      rw [if_pos h1, if_pos h2]
      exact com_app r (c :: l) 0 0 h
    · rw [if_neg h1] at h
      simp at h
theorem quot_app (r : List UInt8) : ∀ (l out : List UInt8) (k : Nat), (quotGo l out k).2.2 = 0 → quotGo (l ++ r) out k = quotGo l out k
  | [], _, _, h => by simp [quotGo] at h
  | [c], out, k, h => by
    rw [quotGo] at h
    split at h
    · rename_i h1
      rw [List.singleton_append]
      cases r with
      | nil => rfl
      | cons d r => rw [quotGo, quotGo, if_pos h1, if_pos h1]
    · split at h
      · simp at h
      · split at h <;> simp at h
  | c :: d :: l, out, k, h => by
    rw [quotGo] at h
    rw [List.cons_append, List.cons_append, quotGo, quotGo]
    split at h
    · rename_i h1
      rw [if_pos h1, if_pos h1]
    · rename_i h1
      rw [if_neg h1, if_neg h1]
      split at h
      · rename_i h2
        rw [if_pos h2, if_pos h2]
        split at h
        · rename_i h3
          rw [if_pos h3, if_pos h3]
          exact quot_app r l _ _ h
        · simp at h
      · rename_i h2
        rw [if_neg h2, if_neg h2]
        split at h
        · rename_i h3
          rw [if_pos h3, if_pos h3]
          exact quot_app r (d :: l) _ _ h
        · simp at h
theorem quoted_app (l r : List UInt8) (h : (quoted l).2.2 = 0) : quoted (l ++ r) = quoted l := by
  cases l with
  | nil => simp [quoted] at h
  | cons c l =>
    unfold quoted at h ⊢
    simp only [List.cons_append] at h ⊢
    split at h
    · rename_i h1
      rw [if_pos h1, if_pos h1]
      exact quot_app r l [] 1 h
    · simp at h
/-- what stands behind: white space with comments of d bytes, behind it nothing or a comma. -/
structure Behind (r : List UInt8) (d : Nat) : Prop where
  le : d ≤ r.length
  bl : ∀ f k, r.length ≤ f → blGo f r k = (k + d, 0)
  bl2 : ∀ f k, (r.drop d).length ≤ f → blGo f (r.drop d) k = (k, 0)
  host : ∀ c, r.head? = some c → hostdotB c = false
  word : ∀ c, r.head? = some c → wordB c = false
  stop : ∀ c, r[d]? = some c → c = 44
theorem bl_app (r : List UInt8) (d : Nat) (H : Behind r d) : ∀ (f : Nat) (l : List UInt8) (k f' : Nat), l.length ≤ f → (l ++ r).length ≤ f' → (blGo f l k).2 = 0 →
    blGo f' (l ++ r) k = if (blGo f l k).1 = k + l.length then (k + l.length + d, 0) else blGo f l k
  | f, [], k, f', _, h, _ => by
    have e : blGo f [] k = (k, 0) := by cases f <;> rfl
    rw [e, if_pos (by simp), List.nil_append, H.bl f' k (by simpa using h)]
    simp
  | 0, _ :: _, _, _, h, _, _ => by simp at h
  | f + 1, c :: l, k, f', hf, hf', h => by
    obtain ⟨f', rfl⟩ : ∃ g, f' = g + 1 := ⟨f' - 1, by simp at hf'; omega⟩
    rw [blGo] at h
    rw [List.cons_append, blGo, blGo]
    have e1 : k + (c :: l).length = k + 1 + l.length := by simp; omega
    rw [e1]
    split at h
    · rename_i h1
      rw [if_pos h1, if_pos h1]
      exact bl_app r d H f l (k + 1) f' (by simpa using hf) (by simpa using hf') h
    · rename_i h1
      rw [if_neg h1, if_neg h1]
      split at h
      · rename_i h2
        rw [if_pos h2, if_pos h2]
        split at h
        · rename_i h3
          have hc := comment_many (c :: l)
          have h4 := hc.1 h3
          have ea := commentL_app (c :: l) r h3
          rw [List.cons_append] at ea
          rw [ea, if_pos h3, if_pos h3]
          have ed : (c :: (l ++ r)).drop (commentL (c :: l)).1 = (c :: l).drop (commentL (c :: l)).1 ++ r := by
            rw [← List.cons_append, List.drop_append_of_le_length hc.2]
          rw [ed]
          have := bl_app r d H f ((c :: l).drop (commentL (c :: l)).1) (k + (commentL (c :: l)).1) f' (by simp at hf ⊢; omega) (by simp at hf' ⊢; omega) h
          rw [this]
          have e2 : k + (commentL (c :: l)).1 + ((c :: l).drop (commentL (c :: l)).1).length = k + 1 + l.length := by
            have := hc.2
            simp only [List.length_drop, List.length_cons] at this ⊢
            omega
          rw [e2]
        · rename_i h3
          exact absurd h h3
      · rename_i h2
        rw [if_neg h2, if_neg h2, if_neg (by simp; omega)]
def ph (n d k : Nat) : Nat := if k = n then n + d else k
theorem ph_lt {n d k : Nat} (h : k < n) : ph n d k = k := by unfold ph; rw [if_neg (by omega)]
theorem ph_eq (n d : Nat) : ph n d n = n + d := by unfold ph; rw [if_pos rfl]
section
variable (l r : List UInt8) (d : Nat) (H : Behind r d)
include H
theorem blankE_end : blankE (l ++ r) (l.length + d) = some (l.length + d) := by
  unfold blankE blankL
  rw [drop_sh, H.bl2 _ _ (Nat.le_refl _)]
  rfl
theorem blankE_ext {k m : Nat} (hk : k ≤ l.length) (h : blankE l k = some m) : blankE (l ++ r) k = some (ph l.length d m) := by
  unfold blankE blankL at h ⊢
  rw [List.drop_append_of_le_length hk]
  split at h
  · rename_i h0
    injection h with h
    have := bl_app r d H _ (l.drop k) 0 _ (Nat.le_refl _) (Nat.le_refl _) h0
    rw [this]
    have hm := blank_many (l.drop k)
    unfold blankL at hm
    have hl : (l.drop k).length = l.length - k := List.length_drop
    by_cases he : (blGo (l.drop k).length (l.drop k) 0).1 = 0 + (l.drop k).length
    · rw [if_pos he]
      simp only [if_true]
      have hml : m = l.length := by omega
      subst hml
      rw [ph_eq]
      congr 1
      omega
    · rw [if_neg he, if_pos h0, h]
      rw [ph_lt (by omega)]
  · cases h
theorem blankE_ext' {k m x : Nat} (hk : k ≤ l.length) (hx : x = k ∨ x = ph l.length d k) (h : blankE l k = some m) : blankE (l ++ r) x = some (ph l.length d m) := by
  rcases hx with rfl | rfl
  · exact blankE_ext l r d H hk h
  · rcases Nat.lt_or_eq_of_le hk with h1 | rfl
    · rw [ph_lt h1]; exact blankE_ext l r d H hk h
    · have hm := blankE_le (Nat.le_refl _) h
      have : m = l.length := by omega
      subst this
      rw [ph_eq]
      exact blankE_end l r d H
end
theorem get_app (l r : List UInt8) {k : Nat} (h : k < l.length) : (l ++ r)[k]? = l[k]? := List.getElem?_append_left h
theorem tw_app (p : UInt8 → Bool) (r : List UInt8) (hr : ∀ c, r.head? = some c → p c = false) : ∀ l : List UInt8, tw p (l ++ r) = tw p l
  | [] => by
    cases r with
    | nil => rfl
    | cons c r => rw [List.nil_append, tw_no p c r (hr c rfl)]; rfl
  | c :: l => by
    rw [List.cons_append]
    cases h : p c with
    | true => rw [tw_yes p c _ h, tw_yes p c _ h, tw_app p r hr l]
    | false => rw [tw_no p c _ h, tw_no p c _ h]
theorem tw_app_lt (p : UInt8 → Bool) (r : List UInt8) : ∀ l : List UInt8, tw p l < l.length → tw p (l ++ r) = tw p l
  | [], h => by simp [tw] at h
  | c :: l, h => by
    rw [List.cons_append]
    cases hc : p c with
    | true =>
      rw [tw_yes p c _ hc] at h
      rw [tw_yes p c _ hc, tw_yes p c _ hc, tw_app_lt p r l (by simpa using h)]
    | false => rw [tw_no p c _ hc, tw_no p c _ hc]
theorem slc_app (l r : List UInt8) (a b : Nat) (h : b ≤ l.length) : slc (l ++ r) a b = slc l a b := by
  unfold slc
  rw [List.take_append_of_le_length h]
section
variable (l r : List UInt8) (d : Nat) (H : Behind r d)
include H
theorem domE_ext {k n : Nat} (hk : k ≤ l.length) (h : domE l k = some n) : domE (l ++ r) k = some n := by
  have hn := domE_le hk h
  have hlt : k < l.length := by omega
  unfold domE at h ⊢
  rw [get_app l r hlt, List.drop_append_of_le_length hk, List.length_append]
  split at h
  · rename_i h1
    split at h
    · rename_i h2
      have e : tw notEnd (l.drop k ++ r) = tw notEnd (l.drop k) := tw_app_lt _ _ _ (by rw [List.length_drop]; omega)
      rw [if_pos h1, e, if_pos (by omega)]
      exact h
    · cases h
  · rename_i h1
    have e : tw hostdotB (l.drop k ++ r) = tw hostdotB (l.drop k) := tw_app _ _ H.host _
    rw [if_neg h1, e]
    exact h
theorem wordE_ext {k n : Nat} (hk : k < l.length) (h : wordE l k = some n) : wordE (l ++ r) k = some n := by
  unfold wordE at h ⊢
  rw [get_app l r hk, List.drop_append_of_le_length (by omega)]
  split at h
  · rename_i h1
    rw [if_pos h1]
    split at h
    · rename_i h2
      rw [quoted_app _ r h2, if_pos h2]
      exact h
    · cases h
  · rename_i h1
    rw [if_neg h1, tw_app _ _ H.word]
    exact h
theorem get_end {c : UInt8} (h : (l ++ r)[l.length + d]? = some c) : c = 44 := by
  rw [get_sh] at h
  exact H.stop c h
theorem wordE_end : wordE (l ++ r) (l.length + d) = some (l.length + d) := by
  unfold wordE
  rw [if_neg (fun h => absurd (get_end l r d H h) (by decide)), drop_sh]
  cases hd : r.drop d with
  | nil => rw [tw_nil]; rfl
  | cons c t =>
    have : r[d]? = some c := by
      have := congrArg (fun x : List UInt8 => x[0]?) hd
      simpa using this
    rw [tw_no _ _ _ (by rw [H.stop c this]; decide)]; rfl
theorem addrE_ext {a b n : Nat} {st st' : LSt} (h : addrE l a b st = some (n, st')) : addrE (l ++ r) a b st = some (n, st') := by
  have hb := addrE_le h
  unfold addrE at h ⊢
  rw [get_app l r (by omega)]
  split at h
  · cases h
  · rename_i h1
    rw [if_neg h1]
    split at h
    · cases h
    · rename_i h2
      rw [if_neg h2]
      split at h
      · cases h
      · rename_i t ht
        have ht2 := domE_le (by omega) ht
        rw [domE_ext l r d H (by omega) ht]
        simp only
        rw [slc_app l r a t ht2.2]
        exact h
theorem routeE_ext : ∀ (f k n : Nat) (g g' : Bool), routeE f l k g = some (n, g') → ∀ f', f ≤ f' → routeE f' (l ++ r) k g = some (n, g')
  | 0, _, _, _, _, h, _, _ => by cases h
  | f + 1, k, n, g, g', h, f', hf => by
    obtain ⟨f', rfl⟩ : ∃ m, f' = m + 1 := ⟨f' - 1, by omega⟩
    rw [routeE] at h ⊢
    split at h
    · cases h
    · rename_i h2
      have hk : k < l.length := at_lt (Classical.not_not.1 h2)
      rw [get_app l r hk, if_neg h2]
      split at h
      · cases h
      · rename_i t ht
        have ht2 := domE_le (by omega) ht
        rw [domE_ext l r d H (by omega) ht]
        simp only
        rw [slc_app l r k t ht2.2]
        split at h
        · cases h
        · rename_i h3
          rw [if_neg h3]
          split at h
          · rename_i h4
            rw [get_app l r (at_lt h4), if_pos h4]
            exact h
          · rename_i h4
            split at h
            · rename_i h5
              rw [get_app l r (at_lt h5), if_neg h4, if_pos h5]
              exact routeE_ext f _ _ _ _ h f' (by omega)
            · cases h
theorem rouE_ext {k n : Nat} {g g' : Bool} (hk : k ≤ l.length) (h : rouE l k g = some (n, g')) : ∃ n', rouE (l ++ r) (ph l.length d k) g = some (n', g') ∧ (n' = n ∨ n' = ph l.length d n) := by
  unfold rouE at h ⊢
  split at h
  · rename_i h1
    have hlt := at_lt h1
    refine ⟨n, ?_, Or.inl rfl⟩
    rw [ph_lt hlt, get_app l r hlt, if_pos h1]
    exact routeE_ext l r d H _ _ _ _ _ h _ (by simp)
  · rename_i h1
    injection h with h
    injection h with h h'
    subst h; subst h'
    refine ⟨ph l.length d k, ?_, Or.inr rfl⟩
    rcases Nat.lt_or_eq_of_le hk with h2 | rfl
    · rw [ph_lt h2, get_app l r h2, if_neg h1]
    · rw [ph_eq, if_neg (fun h => absurd (get_end l r d H h) (by decide))]
theorem closE_ext {k n x : Nat} {st st' : LSt} (hk : k ≤ l.length) (hx : x = k ∨ x = ph l.length d k) (h : closE l k st = some (n, st')) : closE (l ++ r) x st = some (n, st') := by
  unfold closE at h ⊢
  split at h
  · cases h
  · rename_i k' hb
    rw [blankE_ext' l r d H hk hx hb]
    simp only
    split at h
    · rename_i h1
      rw [ph_lt (at_lt h1), get_app l r (at_lt h1), if_pos h1]
      exact h
    · cases h
theorem angE2_ext {k n x : Nat} {st st' : LSt} (hk : k ≤ l.length) (hx : x = k ∨ x = ph l.length d k) (h : angE2 l k st = some (n, st')) : angE2 (l ++ r) x st = some (n, st') := by
  unfold angE2 at h ⊢
  split at h
  · cases h
  · rename_i k3 hb
    rw [blankE_ext' l r d H hk hx hb]
    have h3 := blankE_le hk hb
    split at h
    · cases h
    · rename_i e he
      have h4 := wordE_le h3.2 he
      split at h
      · cases h
      · rename_i k4 st4 ha
        have h5 := addrE_le ha
        have hlt : k3 < l.length := by omega
        rw [ph_lt hlt, wordE_ext l r d H hlt he]
        dsimp only
        rw [addrE_ext l r d H ha]
        exact closE_ext l r d H h5.2.2 (Or.inl rfl) h
theorem angleE_ext {k n : Nat} {st st' : LSt} (hk : k ≤ l.length) (h : angleE l k st = some (n, st')) : angleE (l ++ r) k st = some (n, st') := by
  unfold angleE at h ⊢
  split at h
  · cases h
  · rename_i k1 hb
    rw [blankE_ext l r d H hk hb]
    have h1 := blankE_le hk hb
    split at h
    · cases h
    · rename_i k2 g hr
      have h2 := rouE_le h1.2 hr
      obtain ⟨n', e1, e2⟩ := rouE_ext l r d H h1.2 hr
      simp only
      rw [e1]
      exact angE2_ext l r d H h2.2 e2 h
theorem wordsE_ext : ∀ (f i m e i' m' e' : Nat), i ≤ l.length → wordsE f l i m e = some (i', m', e') → ∀ f' e2, f ≤ f' → (m = 0 ∨ e2 = e) → ∃ e2', wordsE f' (l ++ r) (ph l.length d i) m e2 = some (ph l.length d i', m', e2') ∧ (m' = 0 ∨ e2' = e')
  | 0, _, _, _, _, _, _, _, h, _, _, _, _ => by cases h
  | f + 1, i, m, e, i', m', e', hi, h, f', e2, hf, he => by
    obtain ⟨f', rfl⟩ : ∃ q, f' = q + 1 := ⟨f' - 1, by omega⟩
    rw [wordsE] at h
    split at h
    · cases h
    · rename_i k hw
      have h1 := wordE_le hi hw
      rcases Nat.lt_or_eq_of_le hi with hlt | rfl
      · split at h
        · rename_i hki
          injection h with h
          injection h with h h'
          injection h' with h' h''
          subst h; subst h'; subst h''
          refine ⟨e2, ?_, he⟩
          rw [ph_lt hlt, wordsE, wordE_ext l r d H hlt hw]
          simp only
          rw [if_pos hki]
        · rename_i hki
          split at h
          · cases h
          · rename_i j hb
            have h2 := blankE_le h1.2 hb
            obtain ⟨e2', e3, e4⟩ := wordsE_ext f j (m + 1) k i' m' e' h2.2 h f' k (by omega) (Or.inr rfl)
            refine ⟨e2', ?_, e4⟩
            rw [ph_lt hlt, wordsE, wordE_ext l r d H hlt hw]
            simp only
            rw [if_neg hki, blankE_ext l r d H h1.2 hb]
            exact e3
      · have : k = l.length := by omega
        subst this
        rw [if_pos rfl] at h
        injection h with h
        injection h with h h'
        injection h' with h' h''
        subst h; subst h'; subst h''
        refine ⟨e2, ?_, he⟩
        rw [ph_eq, wordsE, wordE_end l r d H]
        simp
def InnerEx (i1 i2 : Nat → LSt → Option (Nat × LSt)) : Prop := ∀ k st n st', k < l.length → i2 (k + 1) st = some (n, st') → i1 (k + 1) st = some (n, st')
theorem afterE_ext {i1 i2 : Nat → LSt → Option (Nat × LSt)} (hI : ∀ k st n st', k ≤ l.length → i2 k st = some (n, st') → i1 k st = some (n, st')) (within : Bool) {fr i m e e2 n : Nat} {st st' : LSt} (hf : fr ≤ i) (hi : i ≤ l.length) (he : m = 0 ∨ e2 = e)
    (h : afterE i2 within l fr i m e st = some (n, st')) : ∃ n', afterE i1 within (l ++ r) (ph l.length d fr) (ph l.length d i) m e2 st = some (n', st') ∧ (n' = n ∨ n' = ph l.length d n) := by
  rcases Nat.lt_or_eq_of_le hi with hlt | rfl
  · rw [ph_lt hlt, ph_lt (show fr < l.length by omega)]
    unfold afterE at h ⊢
    rw [get_app l r hlt]
    split at h
    · rename_i h1
      rw [if_pos h1]
      split at h
      · rename_i h2
        rw [if_pos ⟨h2.1, by rcases he with he | he <;> omega⟩]
        exact ⟨n, addrE_ext l r d H h, Or.inl rfl⟩
      · cases h
    · rename_i h1
      rw [if_neg h1]
      split at h
      · rename_i h2
        rw [if_pos h2]
        exact ⟨n, angleE_ext l r d H (by omega) h, Or.inl rfl⟩
      · rename_i h2
        rw [if_neg h2]
        split at h
        · rename_i h3
          rw [if_pos h3]
          exact ⟨n, hI _ _ _ _ (by omega) h, Or.inl rfl⟩
        · rename_i h3
          rw [if_neg h3]
          split at h
          · cases h
          · rename_i h4
            rw [if_neg h4]
            injection h with h
            injection h with h h'
            subst h; subst h'
            exact ⟨i, rfl, Or.inl rfl⟩
  · have hn : l[l.length]? = none := List.getElem?_eq_none (Nat.le_refl _)
    unfold afterE at h ⊢
    rw [hn] at h
    rw [ph_eq]
    have g : ∀ c : UInt8, c ≠ 44 → ¬ (l ++ r)[l.length + d]? = some c := fun c hc hh => hc (get_end l r d H hh)
    rw [if_neg (g 64 (by decide)), if_neg (g 60 (by decide)), if_neg (fun hh => g 58 (by decide) hh.1)]
    rw [if_neg (by simp), if_neg (by simp), if_neg (by simp)] at h
    split at h
    · cases h
    · rename_i h4
      rw [if_neg h4]
      injection h with h
      injection h with h h'
      subst h; subst h'
      exact ⟨_, rfl, Or.inr (ph_eq _ _).symm⟩
theorem memE_ext {i1 i2 : Nat → LSt → Option (Nat × LSt)} (hI : ∀ k st n st', k ≤ l.length → i2 k st = some (n, st') → i1 k st = some (n, st')) (hL : InnerLe l i2) (within : Bool) {k n x : Nat} {st st' : LSt} (hk : k ≤ l.length) (hx : x = k ∨ x = ph l.length d k)
    (h : memE i2 within l k st = some (n, st')) : memE i1 within (l ++ r) x st = some (ph l.length d n, st') := by
  unfold memE at h ⊢
  split at h
  · cases h
  · rename_i fr hb
    have h1 := blankE_le hk hb
    rw [blankE_ext' l r d H hk hx hb]
    split at h
    · cases h
    · rename_i i m e hw
      have h2 := wordsE_le _ h1.2 (Nat.le_refl _) hw
      obtain ⟨e2', e3, e4⟩ := wordsE_ext l r d H _ _ _ _ _ _ _ h1.2 hw ((l ++ r).length + 1) (ph l.length d fr) (by simp) (Or.inl rfl)
      simp only
      rw [e3]
      simp only
      unfold lastE at h
      split at h
      · cases h
      · rename_i k2 st2 ha
        have h3 := afterE_le hL h2.2.1 ha
        obtain ⟨n', e5, e6⟩ := afterE_ext l r d H hI within h2.1 h2.2.1 e4 ha
        rw [e5]
        split at h
        · cases h
        · rename_i k3 hb3
          injection h with h
          injection h with h h'
          subst h; subst h'
          simp only [lastE]
          rw [blankE_ext' l r d H h3.2 e6 hb3]
omit H in
theorem memsE_ext {m1 m2 : Nat → LSt → Option (Nat × LSt)} (hL : InnerLe l m2) (hM : ∀ k st n st' x, k ≤ l.length → (x = k ∨ x = ph l.length d k) → m2 k st = some (n, st') → m1 x st = some (ph l.length d n, st')) :
    ∀ (f k n : Nat) (st st' : LSt) (x f' : Nat), k ≤ l.length → (x = k ∨ x = ph l.length d k) → f ≤ f' → memsE m2 l f k st = some (n, st') →
    (n < l.length → memsE m1 (l ++ r) f' x st = some (n, st')) ∧
    (n = l.length → ∃ f0, f' ≤ f0 + f ∧ memsE m1 (l ++ r) f' x st = if r[d]? = some 44 then memsE m1 (l ++ r) f0 (l.length + d + 1) st' else some (l.length + d, st'))
  | 0, _, _, _, _, _, _, _, _, _, h => by cases h
  | f + 1, k, n, st, st', x, f', hk, hx, hf, h => by
    obtain ⟨f', rfl⟩ : ∃ q, f' = q + 1 := ⟨f' - 1, by omega⟩
    rw [memsE] at h
    split at h
    · cases h
    · rename_i k2 st2 hm
      have h1 := hL _ _ _ _ hk hm
      have hm2 := hM _ _ _ _ x hk hx hm
      split at h
      · rename_i h3
        have hlt := at_lt h3
        have ih := memsE_ext hL hM f (k2 + 1) n st2 st' (k2 + 1) f' (by omega) (Or.inl rfl) (by omega) h
        rw [memsE, hm2]
        simp only
        rw [ph_lt hlt, get_app l r hlt, if_pos h3]
        refine ⟨ih.1, fun hn => ?_⟩
        obtain ⟨f0, e1, e2⟩ := ih.2 hn
        exact ⟨f0, by omega, e2⟩
      · rename_i h3
        injection h with h
        injection h with h h'
        subst h; subst h'
        refine ⟨fun hlt => ?_, fun hn => ?_⟩
        · rw [memsE, hm2]
          simp only
          rw [ph_lt hlt, get_app l r hlt, if_neg h3]
        · subst hn
          refine ⟨f', by omega, ?_⟩
          rw [memsE, hm2]
          simp only
          rw [ph_eq, get_sh]
theorem memT_ext {k n x : Nat} {st st' : LSt} (hk : k ≤ l.length) (hx : x = k ∨ x = ph l.length d k) (h : memT l k st = some (n, st')) : memT (l ++ r) x st = some (ph l.length d n, st') :=
  memE_ext l r d H (fun _ _ _ _ _ h => by cases h) (none_le l) true hk hx h
theorem innerE_ext {k n : Nat} {st st' : LSt} (hk : k ≤ l.length) (h : innerE l k st = some (n, st')) : innerE (l ++ r) k st = some (n, st') := by
  unfold innerE at h ⊢
  split at h
  · cases h
  · rename_i k2 st2 hm
    split at h
    · rename_i h3
      have hlt := at_lt h3
      have := (memsE_ext l r d (memT_le l) (fun k st n st' x hk hx h => memT_ext l r d H hk hx h) _ k k2 st st2 k ((l ++ r).length + 1) hk (Or.inl rfl) (by simp) hm).1 hlt
      unfold memsT
      rw [this]
      simp only
      rw [get_app l r hlt, if_pos h3]
      exact h
    · cases h
theorem memF_ext {k n x : Nat} {st st' : LSt} (hk : k ≤ l.length) (hx : x = k ∨ x = ph l.length d k) (h : memF l k st = some (n, st')) : memF (l ++ r) x st = some (ph l.length d n, st') :=
  memE_ext l r d H (fun k st n st' hk h => innerE_ext l r d H hk h) (innerE_le l) false hk hx h
/-- a whole list ahead of what is behind. -/
theorem memsF_ext {st st' : LSt} (h : memsF l 0 st = some (l.length, st')) :
    ∃ f0, r.length ≤ f0 ∧ memsF (l ++ r) 0 st = if r[d]? = some 44 then memsE (memF (l ++ r)) (l ++ r) f0 (l.length + d + 1) st' else some (l.length + d, st') := by
  obtain ⟨f0, e1, e2⟩ := (memsE_ext l r d (memF_le l) (fun k st n st' x hk hx h => memF_ext l r d H hk hx h) _ 0 l.length st st' 0 ((l ++ r).length + 1) (by omega) (Or.inl rfl) (by simp) h).2 rfl
  refine ⟨f0, ?_, e2⟩
  simp at e1
  omega
end
end Go.Proofs.YtffngbjnbigipaaGreatDoor

/- The plain law of ListJoins: a list, a comma, and a list; a list with white space about it. -/
namespace Go.Proofs.YtffngbjnbigipaaGreatDoor
open Go.RowKit Go.Lib
set_option linter.unusedSimpArgs false
set_option linter.unusedVariables false

theorem findL_ne5 {l : List UInt8} {sp : List Sp} {e : Nat} (h : findL l = (sp, e)) (he : e ≠ 5) : ∃ sp' long, memsF l 0 ([], false) = some (l.length, sp', long) ∧ (e = 0 → sp' = sp ∧ sp.length ≤ 64 ∧ long = false) := by
  unfold findL at h
  split at h
  · injection h with _ h; exact absurd h.symm he
  · rename_i k sp' long hm
    split at h
    · injection h with _ h; exact absurd h.symm he
    · rename_i hk
      have : k = l.length := Classical.not_not.1 hk
      subst this
      refine ⟨sp', long, hm, fun h0 => ?_⟩
      subst h0
      split at h
      · simp at h
      · rename_i hl
        split at h
        · simp at h
        · rename_i hs
          injection h with h _
          subst h
          exact ⟨rfl, by omega, by simpa using hl⟩
theorem findL_of {l : List UInt8} {sp : List Sp} {long : Bool} (h : memsF l 0 ([], false) = some (l.length, sp, long)) : findL l = if long = true then ([], 3) else if 64 < sp.length then ([], 7) else (sp, 0) := by
  unfold findL
  rw [h]
  simp only
  rw [if_neg (by simp)]
theorem findL_len (l : List UInt8) : (findL l).1.length ≤ 64 := by
  unfold findL
  split
  · simp
  · split
    · simp
    · split
      · simp
      · split
        · simp
        · simpa using (by omega : ¬ 64 < _)
theorem comma_behind (b : List UInt8) : Behind (44 :: b) 0 := by
  have h : ∀ f k, (44 :: b).length ≤ f → blGo f (44 :: b) k = (k, 0) := by
    intro f k hf
    obtain ⟨f, rfl⟩ : ∃ g, f = g + 1 := ⟨f - 1, by simp at hf; omega⟩
    rw [blGo, if_neg (by decide), if_neg (by decide)]
  exact ⟨by simp, fun f k hf => by simpa using h f k hf, fun f k hf => by simpa using h f k (by simpa using hf), fun c hc => by simp at hc; subst hc; decide, fun c hc => by simp at hc; subst hc; decide, fun c hc => by simpa using hc.symm⟩
theorem join_law {a b : List UInt8} {sa sb : List Sp} (ha : findL a = (sa, 0)) (hb : findL b = (sb, 0)) (hn : sa.length + sb.length ≤ 64) :
    findL (a ++ 44 :: b) = (sa ++ sb.map (shSp (a.length + 1)), 0) := by
  obtain ⟨sa', ga, h1, h2⟩ := findL_ne5 ha (by decide)
  obtain ⟨rfl, ha64, rfl⟩ := h2 rfl
  obtain ⟨sb', gb, h3, h4⟩ := findL_ne5 hb (by decide)
  obtain ⟨rfl, hb64, rfl⟩ := h4 rfl
  obtain ⟨f0, hf0, hm⟩ := memsF_ext a (44 :: b) 0 (comma_behind b) h1
  rw [if_pos (by rfl)] at hm
  have e : a ++ 44 :: b = (a ++ [44]) ++ b := by simp
  have hsh := memsE_sh (a ++ [44]) b sa' false (memF_le b) (memF_sh (a ++ [44]) b sa' false) f0 0 ([], false) (by omega)
  rw [memsE_fuel (memF b) b (memF_le b) f0 (b.length + 1) 0 _ (by omega) (by simp at hf0; omega) (by omega)] at hsh
  have h3' : memsE (memF b) b (b.length + 1) 0 ([], false) = some (b.length, sb', false) := h3
  rw [h3', ← e] at hsh
  have hm2 : memsF (a ++ 44 :: b) 0 ([], false) = some ((a ++ 44 :: b).length, sa' ++ sb'.map (shSp (a.length + 1)), false) := by
    rw [hm]
    have e2 : shT (a ++ [44]).length sa' false ([], false) = (sa', false) := by simp [shT]
    rw [e2] at hsh
    simp only [List.length_append, List.length_cons, List.length_nil, Nat.add_zero, Nat.zero_add] at hsh ⊢
    rw [hsh]
    simp only [shR, shT, Option.map_some, List.length_append, List.length_cons, List.length_nil, Bool.or_false]
    congr 2
    omega
  rw [findL_of hm2]
  simp only [Bool.false_eq_true, if_false]
  rw [if_neg (by simp; omega)]

/-! white space about it -/
def aheadS : List UInt8 := [32, 40, 120, 41]
def behindS : List UInt8 := [9, 40, 121, 40, 122, 41, 41, 32]
theorem bl_fuel : ∀ (f f' : Nat) (l : List UInt8) (k : Nat), l.length ≤ f → l.length ≤ f' → blGo f l k = blGo f' l k
  | 0, 0, _, _, _, _ => rfl
  | 0, f' + 1, l, k, h, _ => by
    have : l = [] := List.eq_nil_of_length_eq_zero (by omega)
    subst this; rfl
  | f + 1, 0, l, k, _, h => by
    have : l = [] := List.eq_nil_of_length_eq_zero (by omega)
    subst this; rfl
  | f + 1, f' + 1, [], k, _, _ => rfl
  | f + 1, f' + 1, c :: l, k, h, h' => by
    rw [blGo, blGo]
    split
    · exact bl_fuel f f' l _ (by simpa using h) (by simpa using h')
    · split
      · split
        · rename_i h3
          have hc := (comment_many (c :: l)).1 h3
          exact bl_fuel f f' _ _ (by simp at h ⊢; omega) (by simp at h' ⊢; omega)
        · rfl
      · rfl
theorem behind_behind : Behind behindS 8 := by
  refine ⟨by decide, fun f k hf => ?_, fun f k hf => ?_, fun c hc => ?_, fun c hc => ?_, fun c hc => ?_⟩
  · rw [bl_fuel f 8 behindS k hf (by decide)]
    have h1 : commentL [40, 121, 40, 122, 41, 41, 32] = (6, 0) := by decide +kernel
    unfold behindS
    simp [blGo, h1]
  · cases f <;> rfl
  · simp [behindS] at hc; subst hc; decide
  · simp [behindS] at hc; subst hc; decide
  · simp [behindS] at hc
theorem blank_ahead (t : List UInt8) : blankE (aheadS ++ t) 0 = blankE (aheadS ++ t) 4 := by
  have h4 : (aheadS ++ t).drop 4 = t := rfl
  have hc : commentL (40 :: 120 :: 41 :: t) = (3, 0) := by
    have : commentL ([40, 120, 41] ++ t) = commentL [40, 120, 41] := commentL_app _ _ (by decide +kernel)
    rw [show (40 :: 120 :: 41 :: t : List UInt8) = [40, 120, 41] ++ t from rfl, this]
    decide +kernel
  have hs : ∀ (f : Nat) (l : List UInt8) (k : Nat), (blGo f l k).2 = (blGo f l 0).2 ∧ ((blGo f l 0).2 = 0 → (blGo f l k).1 = k + (blGo f l 0).1) := by
    intro f
    induction f with
    | zero => intro l k; simp [blGo]
    | succ f ih =>
      intro l k
      cases l with
      | nil => simp [blGo]
      | cons c l =>
        rw [blGo, blGo]
        split
        · have h1 := ih l (k + 1)
          have h2 := ih l (0 + 1)
          refine ⟨h1.1.trans h2.1.symm, fun h => ?_⟩
          have h0 := h2.1.symm.trans h
          rw [h1.2 h0, h2.2 h0]
          omega
        · split
          · split
            · have h1 := ih ((c :: l).drop (commentL (c :: l)).1) (k + (commentL (c :: l)).1)
              have h2 := ih ((c :: l).drop (commentL (c :: l)).1) (0 + (commentL (c :: l)).1)
              refine ⟨h1.1.trans h2.1.symm, fun h => ?_⟩
              have h0 := h2.1.symm.trans h
              rw [h1.2 h0, h2.2 h0]
              omega
            · rename_i h3
              exact ⟨rfl, fun h => absurd h h3⟩
          · simp
  unfold blankE blankL
  rw [h4, List.drop_zero]
  have e1 : blGo (aheadS ++ t).length (aheadS ++ t) 0 = blGo t.length t 4 := by
    rw [bl_fuel (aheadS ++ t).length (t.length + 4) (aheadS ++ t) 0 (Nat.le_refl _) (by simp [aheadS])]
    have : aheadS ++ t = 32 :: 40 :: 120 :: 41 :: t := rfl
    rw [this, blGo, if_pos (by decide), blGo, if_neg (by decide), if_pos (by decide), hc]
    simp only [if_true]
    rw [show (40 :: 120 :: 41 :: t).drop 3 = t from rfl]
    exact bl_fuel _ _ _ _ (by omega) (Nat.le_refl _)
  rw [e1]
  have h := hs t.length t 4
  rw [h.1]
  split
  · rename_i h0
    rw [h.2 h0]
    simp
  · rfl
theorem mem_ahead (inner : Nat → LSt → Option (Nat × LSt)) (t : List UInt8) (st : LSt) : memE inner false (aheadS ++ t) 0 st = memE inner false (aheadS ++ t) 4 st := by
  unfold memE
  rw [blank_ahead]
theorem about_law {s : List UInt8} {sa : List Sp} {e : Nat} (h : findL s = (sa, e)) (he : e ≠ 5) :
    (findL (aheadS ++ (s ++ behindS))).2 = e ∧ (e = 0 → (findL (aheadS ++ (s ++ behindS))).1 = sa.map (shSp 4)) := by
  obtain ⟨sa', g, h1, h2⟩ := findL_ne5 h he
  obtain ⟨f0, -, hm⟩ := memsF_ext s behindS 8 behind_behind h1
  rw [if_neg (by decide)] at hm
  have hsh := memsF_sh aheadS (s ++ behindS) [] false 0 ([], false) (by omega)
  rw [hm] at hsh
  have h0 : memsF (aheadS ++ (s ++ behindS)) 0 ([], false) = memsF (aheadS ++ (s ++ behindS)) 4 ([], false) := by
    unfold memsF
    rw [memsE, memsE]
    unfold memF
    rw [mem_ahead]
  have e2 : shT aheadS.length [] false ([], false) = ([], false) := by simp [shT]
  rw [e2] at hsh
  have hm2 : memsF (aheadS ++ (s ++ behindS)) 0 ([], false) = some ((aheadS ++ (s ++ behindS)).length, sa'.map (shSp 4), g) := by
    rw [h0]
    refine hsh.trans ?_
    simp [shR, shT, aheadS, behindS]
    omega
  rw [findL_of hm2]
  have hf := findL_of h1
  rw [h] at hf
  cases g with
  | true =>
    simp only [if_true] at hf ⊢
    injection hf with h3 h4
    subst h4
    exact ⟨rfl, fun h => by cases h⟩
  | false =>
    simp only [Bool.false_eq_true, if_false, List.length_map] at hf ⊢
    split at hf
    · rename_i h5
      rw [if_pos h5]
      injection hf with h3 h4
      subst h4
      exact ⟨rfl, fun h => by cases h⟩
    · rename_i h5
      rw [if_neg h5]
      injection hf with h3 h4
      subst h3; subst h4
      exact ⟨rfl, fun _ => rfl⟩
end Go.Proofs.YtffngbjnbigipaaGreatDoor

/- In whatever of eight forms an address stands in a list, it is found there: the plain law of ListForms. -/
namespace Go.Proofs.YtffngbjnbigipaaGreatDoor
open Go.RowKit Go.Lib
set_option linter.unusedSimpArgs false
set_option linter.unusedVariables false
set_option linter.unnecessarySimpa false
set_option maxRecDepth 100000

theorem bl_shift : ∀ (f : Nat) (l : List UInt8) (k : Nat), (blGo f l k).2 = (blGo f l 0).2 ∧ ((blGo f l 0).2 = 0 → (blGo f l k).1 = k + (blGo f l 0).1) := by
  intro f
  induction f with
  | zero => intro l k; simp [blGo]
  | succ f ih =>
    intro l k
    cases l with
    | nil => simp [blGo]
    | cons c l =>
      rw [blGo, blGo]
      split
      · have h1 := ih l (k + 1)
        have h2 := ih l (0 + 1)
        refine ⟨h1.1.trans h2.1.symm, fun h => ?_⟩
        have h0 := h2.1.symm.trans h
        rw [h1.2 h0, h2.2 h0]
        omega
      · split
        · split
          · have h1 := ih ((c :: l).drop (commentL (c :: l)).1) (k + (commentL (c :: l)).1)
            have h2 := ih ((c :: l).drop (commentL (c :: l)).1) (0 + (commentL (c :: l)).1)
            refine ⟨h1.1.trans h2.1.symm, fun h => ?_⟩
            have h0 := h2.1.symm.trans h
            rw [h1.2 h0, h2.2 h0]
            omega
          · rename_i h3
            exact ⟨rfl, fun h => absurd h h3⟩
        · simp
theorem drop_one {l : List UInt8} {k : Nat} {c : UInt8} {r : List UInt8} (h : l.drop k = c :: r) : l.drop (k + 1) = r := by
  rw [← List.drop_drop, h]; rfl
theorem bE_stop {l r : List UInt8} {k : Nat} {c : UInt8} (h : l.drop k = c :: r) (hc : c ≠ 32 ∧ c ≠ 9 ∧ c ≠ 40) : blankE l k = some k := by
  have h1 : c.toNat ≠ 32 := fun e => hc.1 (UInt8.toNat_inj.1 e)
  have h2 : c.toNat ≠ 9 := fun e => hc.2.1 (UInt8.toNat_inj.1 e)
  have h3 : c.toNat ≠ 40 := fun e => hc.2.2 (UInt8.toNat_inj.1 e)
  have e : blGo (r.length + 1) (c :: r) 0 = (0, 0) := by rw [blGo, if_neg (by omega), if_neg h3]
  unfold blankE blankL
  rw [h, List.length_cons, e]
  rfl
theorem bE_end {l : List UInt8} {k : Nat} (h : l.drop k = []) : blankE l k = some k := by
  unfold blankE blankL
  rw [h]
  rfl
theorem bE_skip {l r : List UInt8} {k n : Nat} {c : UInt8} (h : l.drop k = c :: r) (hc : c = 32 ∨ c = 9) (hn : blankE l (k + 1) = some n) : blankE l k = some n := by
  have h1 : c.toNat = 32 ∨ c.toNat = 9 := by rcases hc with rfl | rfl <;> decide
  have e : blGo (r.length + 1) (c :: r) 0 = blGo r.length r (0 + 1) := by rw [blGo, if_pos h1]
  unfold blankE blankL at hn ⊢
  rw [drop_one h] at hn
  rw [h, List.length_cons, e]
  have hs := bl_shift r.length r (0 + 1)
  split at hn
  · rename_i h0
    injection hn with hn
    rw [if_pos (hs.1.trans h0), hs.2 h0]
    congr 1
    omega
  · cases hn
theorem bE_com {l p r : List UInt8} {k n : Nat} (h : l.drop k = p ++ r) (hc : commentL p = (p.length, 0)) (hn : blankE l (k + p.length) = some n) : blankE l k = some n := by
  have hca := commentL_app p r (by rw [hc])
  have hdr := drop_more h
  cases p with
  | nil => rw [commentL] at hc; simp at hc
  | cons c p =>
    have h40 : c = 40 := by
      unfold commentL at hc
      split at hc
      · rename_i h0; simpa using h0
      · simp at hc
    subst h40
    unfold blankE blankL at hn ⊢
    rw [hdr] at hn
    rw [h]
    rw [hc] at hca
    have hlen : (40 :: p ++ r).length = (p ++ r).length + 1 := by simp
    rw [hlen]
    rw [List.cons_append] at hca ⊢
    have hd : (40 :: (p ++ r)).drop (40 :: p).length = r := by simp
    have e : blGo ((p ++ r).length + 1) (40 :: (p ++ r)) 0 = blGo (p ++ r).length r (0 + (40 :: p).length) := by
      rw [blGo, if_neg (by decide), if_pos (by decide), hca]
      simp only [if_true]
      rw [hd]
    rw [e]
    have hf := bl_fuel (p ++ r).length r.length r (0 + (40 :: p).length) (by simp) (Nat.le_refl _)
    rw [hf]
    have hs := bl_shift r.length r (0 + (40 :: p).length)
    split at hn
    · rename_i h0
      injection hn with hn
      rw [if_pos (hs.1.trans h0), hs.2 h0]
      congr 1
      omega
    · cases hn
theorem wE_run {l p r : List UInt8} {k : Nat} (h : l.drop k = p ++ r) (hp : ∀ b ∈ p, wordB b = true) (h0 : p.head? ≠ some 34) (h1 : r.head? ≠ some 34) (hr : Stops wordB r) : wordE l k = some (k + p.length) := by
  have hq : ¬ l[k]? = some 34 := by
    have := get_drop h 0
    rw [Nat.add_zero] at this
    rw [this]
    cases p with
    | nil => rw [List.nil_append, ← List.head?_eq_getElem?]; exact h1
    | cons c p => simpa using h0
  unfold wordE
  rw [if_neg hq, h, tw_all wordB p r hp hr]
theorem wE_quot {l p r : List UInt8} {k : Nat} (h : l.drop k = p ++ r) (h0 : p.head? = some 34) (hp : (quoted p).2 = (p.length, 0)) : wordE l k = some (k + p.length) := by
  have hq : l[k]? = some 34 := by
    have := get_drop h 0
    rw [Nat.add_zero] at this
    rw [this]
    cases p with
    | nil => simp at h0
    | cons c p => simpa using h0
  unfold wordE
  rw [if_pos hq, h, quoted_app p r (by rw [hp]), hp]
  simp
theorem stops_cons {p : UInt8 → Bool} {c : UInt8} {r : List UInt8} (h : p c = false) : Stops p (c :: r) := fun c' r' e => by injection e with e1 e2; subst e1; exact h
theorem stops_nil (p : UInt8 → Bool) : Stops p [] := fun c' r' e => by cases e
/-- words are read from i on, up to res. -/
def Words (l : List UInt8) (i m e : Nat) (res : Nat × Nat × Nat) : Prop := i ≤ l.length ∧ ∀ f, l.length - i < f → wordsE f l i m e = some res
theorem words_stop {l : List UInt8} {i m e : Nat} (hi : i ≤ l.length) (h : wordE l i = some i) : Words l i m e (i, m, e) := by
  refine ⟨hi, fun f hf => ?_⟩
  obtain ⟨f, rfl⟩ : ∃ g, f = g + 1 := ⟨f - 1, by omega⟩
  rw [wordsE, h]
  simp
theorem words_step {l : List UInt8} {i m e k i' : Nat} {res : Nat × Nat × Nat} (hi : i ≤ l.length) (h : wordE l i = some k) (hk : i < k) (hb : blankE l k = some i') (hw : Words l i' (m + 1) k res) : Words l i m e res := by
  obtain ⟨h1, h2⟩ := hw
  have h3 := wordE_le hi h
  have h4 := blankE_le h3.2 hb
  refine ⟨hi, fun f hf => ?_⟩
  obtain ⟨f, rfl⟩ : ∃ g, f = g + 1 := ⟨f - 1, by omega⟩
  rw [wordsE, h]
  simp only
  rw [if_neg (by omega), hb]
  exact h2 f (by omega)
theorem words_done {l : List UInt8} {fr : Nat} {res : Nat × Nat × Nat} (h : Words l fr 0 fr res) : wordsE (l.length + 1) l fr 0 fr = some res := h.2 _ (by omega)
def spT (k : Nat) (a : List UInt8 × List UInt8) : Sp := (k, k + (textL a).length, a.1, a.2)
section
variable {l r : List UInt8} {a : List UInt8 × List UInt8} {st : LSt} {inner : Nat → LSt → Option (Nat × LSt)} {within : Bool}
theorem at64 {i : Nat} (h : l[i]? = some 64) : blankE l i = some i ∧ wordE l i = some i := by
  have hd : l.drop i = 64 :: l.drop (i + 1) := by
    obtain ⟨hi, he⟩ := List.getElem?_eq_some_iff.1 h
    rw [List.drop_eq_getElem_cons hi, he]
  refine ⟨bE_stop hd (by decide), ?_⟩
  have := wE_run (p := []) (k := i) hd (by simp) (by simp) (by simp) (stops_cons (by decide))
  simpa using this
theorem bare_mem {k fr n : Nat} (hb : blankE l k = some fr) (hm : mayL a = true) (h : l.drop fr = textL a ++ r) (hr : Stops hostdotB r) (hb2 : blankE l (fr + (textL a).length) = some n) :
    memE inner within l k st = some (n, st.1 ++ [spT fr a], st.2) := by
  obtain ⟨h1, h2, h3, h4⟩ := addr_read (st := st) hm h hr
  have hlt := at_lt h2
  obtain ⟨h5, h6⟩ := at64 h2
  have hw : Words l fr 0 fr (fr + (wordT a.1).length, 0 + 1, fr + (wordT a.1).length) := words_step (by omega) h1 (by omega) h5 (words_stop (by omega) h6)
  unfold memE
  rw [hb]
  simp only
  rw [words_done hw]
  simp only [lastE, afterE]
  rw [if_pos h2, if_pos ⟨trivial, trivial⟩, h4]
  simp only
  rw [hb2]
  rfl
theorem ang_mem {k fr i many e k1 k2 k3 k5 n : Nat} (hb : blankE l k = some fr) (hw : Words l fr 0 fr (i, many, e)) (hi : l[i]? = some 60) (hb1 : blankE l (i + 1) = some k1) (hro : rouE l k1 st.2 = some (k2, st.2)) (hb3 : blankE l k2 = some k3)
    (hm : mayL a = true) (h : l.drop k3 = textL a ++ r) (hr : Stops hostdotB r) (hb5 : blankE l (k3 + (textL a).length) = some k5) (h5 : l[k5]? = some 62) (hbn : blankE l (k5 + 1) = some n) :
    memE inner within l k st = some (n, st.1 ++ [spT k3 a], st.2) := by
  obtain ⟨h1, h2, h3, h4⟩ := addr_read (st := st) hm h hr
  unfold memE
  rw [hb]
  simp only
  rw [words_done hw]
  simp only [lastE, afterE]
  rw [if_neg (by rw [hi]; decide), if_pos hi]
  unfold angleE
  rw [hb1]
  simp only
  rw [hro]
  simp only [angE2]
  rw [hb3]
  simp only
  rw [h1]
  simp only
  rw [h4]
  simp only [closE]
  rw [hb5]
  simp only
  rw [if_pos h5]
  simp only
  rw [hbn]
  rfl
theorem none_mem {k fr n : Nat} (hb : blankE l k = some fr) (hw : wordE l fr = some fr) (hfr : fr ≤ l.length) (h1 : l[fr]? ≠ some 64) (h2 : l[fr]? ≠ some 60) (hb2 : blankE l fr = some n) : memE inner within l k st = some (n, st) := by
  unfold memE
  rw [hb]
  simp only
  rw [words_done (words_stop hfr hw)]
  simp only [lastE, afterE]
  rw [if_neg h1, if_neg h2, if_neg (by omega), if_neg (by omega)]
  simp only
  rw [hb2]
theorem group_mem {k fr i many e n n' : Nat} {st' : LSt} (hb : blankE l k = some fr) (hw : Words l fr 0 fr (i, many, e)) (h0 : 0 < many) (hi : l[i]? = some 58) (hin : inner (i + 1) st = some (n', st')) (hb2 : blankE l n' = some n) :
    memE inner false l k st = some (n, st') := by
  unfold memE
  rw [hb]
  simp only
  rw [words_done hw]
  simp only [lastE, afterE]
  rw [if_neg (by rw [hi]; decide), if_neg (by rw [hi]; decide), if_pos ⟨hi, h0, trivial⟩, hin]
  simp only
  rw [hb2]
end
/-- members are read from k on, up to res. -/
def Mems (mem : Nat → LSt → Option (Nat × LSt)) (l : List UInt8) (k : Nat) (st : LSt) (res : Nat × LSt) : Prop := k ≤ l.length ∧ ∀ f, l.length - k < f → memsE mem l f k st = some res
theorem mems_last {mem : Nat → LSt → Option (Nat × LSt)} {l : List UInt8} {k n : Nat} {st st' : LSt} (hk : k ≤ l.length) (h : mem k st = some (n, st')) (hn : l[n]? ≠ some 44) : Mems mem l k st (n, st') := by
  refine ⟨hk, fun f hf => ?_⟩
  obtain ⟨f, rfl⟩ : ∃ g, f = g + 1 := ⟨f - 1, by omega⟩
  rw [memsE, h]
  simp only
  rw [if_neg hn]
theorem mems_step {mem : Nat → LSt → Option (Nat × LSt)} {l : List UInt8} {k n : Nat} {st st' : LSt} {res : Nat × LSt} (hI : InnerLe l mem) (hk : k ≤ l.length) (h : mem k st = some (n, st')) (hn : l[n]? = some 44) (hw : Mems mem l (n + 1) st' res) : Mems mem l k st res := by
  obtain ⟨h1, h2⟩ := hw
  have h3 := hI _ _ _ _ hk h
  refine ⟨hk, fun f hf => ?_⟩
  obtain ⟨f, rfl⟩ : ∃ g, f = g + 1 := ⟨f - 1, by omega⟩
  rw [memsE, h]
  simp only
  rw [if_pos hn]
  exact h2 f (by omega)
theorem mems_done {mem : Nat → LSt → Option (Nat × LSt)} {l : List UInt8} {k : Nat} {st : LSt} {res : Nat × LSt} (hI : InnerLe l mem) (h : Mems mem l k st res) : memsE mem l (l.length + 1) k st = some res := h.2 _ (by omega)
theorem find_mem {l : List UInt8} {sp : List Sp} (h : memF l 0 ([], false) = some (l.length, sp, false)) (hl : sp.length ≤ 64) : findL l = (sp, 0) := by
  have hm : memsF l 0 ([], false) = some (l.length, sp, false) := mems_done (memF_le l) (mems_last (by omega) h (by simp))
  rw [findL_of hm]
  simp only [Bool.false_eq_true, if_false]
  rw [if_neg (by omega)]
end Go.Proofs.YtffngbjnbigipaaGreatDoor

/- The eight forms, one by one, and a line of them: whatever stands there is found. Plain Lean. -/
namespace Go.Proofs.YtffngbjnbigipaaGreatDoor
open Go.RowKit Go.Lib
set_option linter.unusedSimpArgs false
set_option linter.unusedVariables false
set_option linter.unnecessarySimpa false
set_option maxRecDepth 100000

theorem word_first {a : List UInt8 × List UInt8} (h : mayL a = true) : ∃ c t, textL a = c :: t ∧ c ≠ 32 ∧ c ≠ 9 ∧ c ≠ 40 ∧ c ≠ 44 ∧ c ≠ 64 := by
  have hf := text_form h
  have hw := word_ne h
  have hx : ∃ c t, wordT a.1 = c :: t ∧ (c = 34 ∨ wordB c = true) := by
    unfold wordT at hw ⊢
    cases hd : dotGo a.1 true with
    | true =>
      rw [hd] at hw
      simp only [if_true] at hw ⊢
      cases ha : a.1 with
      | nil => rw [ha] at hw; simp at hw
      | cons x t =>
        refine ⟨x, t, rfl, .inr ?_⟩
        unfold wordB
        rcases dot_mem _ _ hd x (by rw [ha]; exact List.mem_cons_self) with h1 | h1
        · rw [UInt8.toNat_inj.1 (show x.toNat = (46 : UInt8).toNat from h1)]
          decide
        · rw [h1]; simp
    | false =>
      simp only [Bool.false_eq_true, if_false]
      exact ⟨34, _, rfl, .inl rfl⟩
  obtain ⟨c, t, hc, hcc⟩ := hx
  refine ⟨c, t ++ 64 :: a.2, by rw [hf, hc]; rfl, ?_⟩
  rcases hcc with rfl | hcc
  · decide
  · have := byte_all (fun c => !wordB c || (c != 32 && c != 9 && c != 40 && c != 44 && c != 64)) (by decide) c
    simp only [hcc, Bool.not_true, Bool.false_or, Bool.and_eq_true, bne_iff_ne] at this
    exact ⟨this.1.1.1.1, this.1.1.1.2, this.1.1.2, this.1.2, this.2⟩
theorem bE_text {l r : List UInt8} {k : Nat} {a : List UInt8 × List UInt8} (hm : mayL a = true) (h : l.drop k = textL a ++ r) : blankE l k = some k := by
  obtain ⟨c, t, hc, h1, h2, h3, -⟩ := word_first hm
  rw [hc, List.cons_append] at h
  exact bE_stop h ⟨h1, h2, h3⟩
theorem at_drop {l r : List UInt8} {k : Nat} {c : UInt8} (h : l.drop k = c :: r) : l[k]? = some c := by
  have := get_drop h 0
  simpa using this
section
variable (a : List UInt8 × List UInt8) (hm : mayL a = true)
include hm
/-- an address alone. -/
theorem form0 : findL (textL a) = ([spT 0 a], 0) := by
  have h0 : (textL a).drop 0 = textL a ++ [] := by simp
  have h1 : (textL a).drop (0 + (textL a).length) = [] := by simp
  refine find_mem ?_ (by simp)
  have := bare_mem (st := ([], false)) (inner := innerE (textL a)) (within := false) (bE_text hm h0) hm h0 (stops_nil _) (bE_end h1)
  simpa [memF] using this
/-- a comment ahead, a space behind. -/
theorem form1 : findL ([32, 40, 99, 41, 32] ++ (textL a ++ [32])) = ([spT 5 a], 0) := by
  generalize hl : [32, 40, 99, 41, 32] ++ (textL a ++ [32]) = l
  have h0 : l.drop 0 = 32 :: ([40, 99, 41] ++ 32 :: (textL a ++ [32])) := by rw [← hl]; rfl
  have h1 : l.drop (0 + 1) = [40, 99, 41] ++ 32 :: (textL a ++ [32]) := by rw [← hl]; rfl
  have h4 : l.drop (0 + 1 + 3) = 32 :: (textL a ++ [32]) := by rw [← hl]; rfl
  have h5 : l.drop 5 = textL a ++ [32] := by rw [← hl]; rfl
  have h6 := drop_more h5
  have h7 := drop_one h6
  have hlen : 5 + (textL a).length + 1 = l.length := by rw [← hl]; simp; omega
  have hb : blankE l 0 = some 5 := bE_skip h0 (by decide) (bE_com h1 (by decide +kernel) (bE_skip h4 (by decide) (bE_text hm h5)))
  refine find_mem ?_ (by simp)
  have := bare_mem (st := ([], false)) (inner := innerE l) (within := false) hb hm h5 (stops_cons (by decide)) (bE_skip h6 (by decide) (bE_end h7))
  rw [hlen] at this
  exact this
/-- behind a name of two words, in angles. -/
theorem form2 : findL ([78, 97, 109, 101, 32, 78, 46, 32, 60] ++ (textL a ++ [62])) = ([spT 9 a], 0) := by
  generalize hl : [78, 97, 109, 101, 32, 78, 46, 32, 60] ++ (textL a ++ [62]) = l
  have hlen : 9 + (textL a).length + 1 = l.length := by rw [← hl]; simp; omega
  have h0 : l.drop 0 = [78, 97, 109, 101] ++ 32 :: ([78, 46] ++ 32 :: 60 :: (textL a ++ [62])) := by rw [← hl]; rfl
  have h4 : l.drop 4 = 32 :: ([78, 46] ++ 32 :: 60 :: (textL a ++ [62])) := by rw [← hl]; rfl
  have h5 : l.drop 5 = [78, 46] ++ 32 :: 60 :: (textL a ++ [62]) := by rw [← hl]; rfl
  have h7 : l.drop 7 = 32 :: 60 :: (textL a ++ [62]) := by rw [← hl]; rfl
  have h8 : l.drop 8 = 60 :: (textL a ++ [62]) := by rw [← hl]; rfl
  have h9 : l.drop 9 = textL a ++ [62] := by rw [← hl]; rfl
  have hz := drop_more h9
  have hy := drop_one hz
  have hw8 : wordE l 8 = some 8 := by
    have := wE_run (p := []) (k := 8) h8 (by simp) (by simp) (by simp) (stops_cons (by decide))
    simpa using this
  have w1 : wordE l 0 = some 4 := wE_run h0 (by decide) (by decide) (by simp) (stops_cons (by decide))
  have w2 : wordE l 5 = some 7 := wE_run h5 (by decide) (by decide) (by simp) (stops_cons (by decide))
  have b1 : blankE l 4 = some 5 := bE_skip h4 (by decide) (bE_stop h5 (by decide))
  have b2 : blankE l 7 = some 8 := bE_skip h7 (by decide) (bE_stop h8 (by decide))
  have hw : Words l 0 0 0 (8, 2, 7) := words_step (by omega) w1 (by omega) b1 (words_step (by omega) w2 (by omega) b2 (words_stop (by omega) hw8))
  refine find_mem ?_ (by simp)
  have hro : rouE l 9 false = some (9, false) := by
    obtain ⟨c, t, hc, -, -, -, -, h64⟩ := word_first hm
    rw [hc, List.cons_append] at h9
    unfold rouE
    rw [if_neg (by rw [at_drop h9]; simpa using h64)]
  have := ang_mem (st := ([], false)) (inner := innerE l) (within := false) (bE_stop h0 (by decide)) hw (at_drop h8) (bE_text hm h9) hro (bE_text hm h9) hm h9 (stops_cons (by decide)) (bE_stop hz (by decide)) (at_drop hz) (bE_end hy)
  rw [hlen] at this
  exact this
/-- behind a quoted name and a comment, in angles with white space. -/
theorem form3 : findL ([34, 113, 44, 32, 92, 34, 32, 120, 34, 40, 121, 41, 60, 32] ++ (textL a ++ [9, 62])) = ([spT 14 a], 0) := by
  generalize hl : [34, 113, 44, 32, 92, 34, 32, 120, 34, 40, 121, 41, 60, 32] ++ (textL a ++ [9, 62]) = l
  have hlen : 14 + (textL a).length + 1 + 1 = l.length := by rw [← hl]; simp; omega
  have h0 : l.drop 0 = [34, 113, 44, 32, 92, 34, 32, 120, 34] ++ ([40, 121, 41] ++ 60 :: 32 :: (textL a ++ [9, 62])) := by rw [← hl]; rfl
  have h9 : l.drop 9 = [40, 121, 41] ++ 60 :: 32 :: (textL a ++ [9, 62]) := by rw [← hl]; rfl
  have h12 : l.drop 12 = 60 :: 32 :: (textL a ++ [9, 62]) := by rw [← hl]; rfl
  have h13 : l.drop 13 = 32 :: (textL a ++ [9, 62]) := by rw [← hl]; rfl
  have h14 : l.drop 14 = textL a ++ [9, 62] := by rw [← hl]; rfl
  have hz := drop_more h14
  have hy := drop_one hz
  have hx := drop_one hy
  have hw8 : wordE l 12 = some 12 := by
    have := wE_run (p := []) (k := 12) h12 (by simp) (by simp) (by simp) (stops_cons (by decide))
    simpa using this
  have w1 : wordE l 0 = some 9 := wE_quot h0 (by decide) (by decide +kernel)
  have b1 : blankE l 9 = some 12 := bE_com h9 (by decide +kernel) (bE_stop h12 (by decide))
  have hw : Words l 0 0 0 (12, 1, 9) := words_step (by omega) w1 (by omega) b1 (words_stop (by omega) hw8)
  refine find_mem ?_ (by simp)
  have hro : rouE l 14 false = some (14, false) := by
    obtain ⟨c, t, hc, -, -, -, -, h64⟩ := word_first hm
    rw [hc, List.cons_append] at h14
    unfold rouE
    rw [if_neg (by rw [at_drop h14]; simpa using h64)]
  have := ang_mem (st := ([], false)) (inner := innerE l) (within := false) (bE_stop h0 (by decide)) hw (at_drop h12) (bE_skip h13 (by decide) (bE_text hm h14)) hro (bE_text hm h14) hm h14 (stops_cons (by decide)) (bE_skip hz (by decide) (bE_stop hy (by decide))) (at_drop hy) (bE_end hx)
  rw [hlen] at this
  exact this
/-- behind a route, in angles. -/
theorem form4 : findL ([60, 64, 114, 44, 64, 91, 49, 46, 50, 46, 51, 46, 52, 93, 58] ++ (textL a ++ [62])) = ([spT 15 a], 0) := by
  generalize hl : [60, 64, 114, 44, 64, 91, 49, 46, 50, 46, 51, 46, 52, 93, 58] ++ (textL a ++ [62]) = l
  have hlen : 15 + (textL a).length + 1 = l.length := by rw [← hl]; simp; omega
  have h0 : l.drop 0 = 60 :: 64 :: ([114] ++ 44 :: 64 :: ([91, 49, 46, 50, 46, 51, 46, 52, 93] ++ 58 :: (textL a ++ [62]))) := by rw [← hl]; rfl
  have h1 : l.drop 1 = [64, 114] ++ 44 :: 64 :: ([91, 49, 46, 50, 46, 51, 46, 52, 93] ++ 58 :: (textL a ++ [62])) := by rw [← hl]; rfl
  have h2 : l.drop 2 = [114] ++ 44 :: 64 :: ([91, 49, 46, 50, 46, 51, 46, 52, 93] ++ 58 :: (textL a ++ [62])) := by rw [← hl]; rfl
  have h3 : l.drop 3 = 44 :: 64 :: ([91, 49, 46, 50, 46, 51, 46, 52, 93] ++ 58 :: (textL a ++ [62])) := by rw [← hl]; rfl
  have h4 : l.drop 4 = [64, 91, 49, 46, 50, 46, 51, 46, 52, 93] ++ 58 :: (textL a ++ [62]) := by rw [← hl]; rfl
  have h5 : l.drop 5 = [91, 49, 46, 50, 46, 51, 46, 52, 93] ++ 58 :: (textL a ++ [62]) := by rw [← hl]; rfl
  have h14 : l.drop 14 = 58 :: (textL a ++ [62]) := by rw [← hl]; rfl
  have h15 : l.drop 15 = textL a ++ [62] := by rw [← hl]; rfl
  have hz := drop_more h15
  have hy := drop_one hz
  have hw8 : wordE l 0 = some 0 := by
    have := wE_run (p := []) (k := 0) h0 (by simp) (by simp) (by simp) (stops_cons (by decide))
    simpa using this
  have hw : Words l 0 0 0 (0, 0, 0) := words_stop (by omega) hw8
  refine find_mem ?_ (by simp)
  have hd1 : domE l (1 + 1) = some 3 := dom_read h2 (by decide +kernel) (stops_cons (by decide))
  have hd2 : domE l (4 + 1) = some 14 := dom_read h5 (by decide +kernel) (stops_cons (by decide))
  have hs1 : slc l 1 3 = [64, 114] := slc_drop (T := [64, 114]) h1
  have hs2 : slc l 4 14 = [64, 91, 49, 46, 50, 46, 51, 46, 52, 93] := slc_drop (T := [64, 91, 49, 46, 50, 46, 51, 46, 52, 93]) h4
  have hp1 : (parseL (120 :: [64, 114])).2.2 = 0 := by decide +kernel
  have hp2 : (parseL (120 :: [64, 91, 49, 46, 50, 46, 51, 46, 52, 93])).2.2 = 0 := by decide +kernel
  have g1 : l[1]? = some 64 := at_drop h1
  have g3 : l[3]? = some 44 := at_drop h3
  have g4 : l[4]? = some 64 := at_drop h4
  have g14 : l[14]? = some 58 := at_drop h14
  have hro : rouE l 1 false = some (15, false) := by
    have e : l.length + 1 = (l.length - 1) + 1 + 1 := by omega
    unfold rouE
    rw [if_pos g1, e, routeE, if_neg (by rw [g1]; simp), hd1]
    simp only
    rw [hs1, hp1, if_neg (by decide), if_neg (by rw [g3]; decide), if_pos g3, routeE, if_neg (by rw [g4]; simp), hd2]
    simp only
    rw [hs2, hp2, if_neg (by decide), if_pos g14]
    rfl
  have := ang_mem (st := ([], false)) (inner := innerE l) (within := false) (bE_stop h0 (by decide)) hw (at_drop h0) (bE_stop h1 (by decide)) hro (bE_text hm h15) hm h15 (stops_cons (by decide)) (bE_stop hz (by decide)) (at_drop hz) (bE_end hy)
  rw [hlen] at this
  exact this
/-- in a group. -/
theorem form5 : findL ([103, 58, 32] ++ (textL a ++ [59])) = ([spT 3 a], 0) := by
  generalize hl : [103, 58, 32] ++ (textL a ++ [59]) = l
  have hlen : 3 + (textL a).length + 1 = l.length := by rw [← hl]; simp; omega
  have h0 : l.drop 0 = [103] ++ 58 :: 32 :: (textL a ++ [59]) := by rw [← hl]; rfl
  have h1 : l.drop 1 = 58 :: 32 :: (textL a ++ [59]) := by rw [← hl]; rfl
  have h2 : l.drop 2 = 32 :: (textL a ++ [59]) := by rw [← hl]; rfl
  have h3 : l.drop 3 = textL a ++ [59] := by rw [← hl]; rfl
  have hz := drop_more h3
  have hy := drop_one hz
  have hw1 : wordE l 1 = some 1 := by
    have := wE_run (p := []) (k := 1) h1 (by simp) (by simp) (by simp) (stops_cons (by decide))
    simpa using this
  have w1 : wordE l 0 = some 1 := wE_run h0 (by decide) (by decide) (by simp) (stops_cons (by decide))
  have hw : Words l 0 0 0 (1, 1, 1) := words_step (by omega) w1 (by omega) (bE_stop h1 (by decide)) (words_stop (by omega) hw1)
  have hmem := bare_mem (st := ([], false)) (inner := fun _ _ => none) (within := true) (k := 2) (bE_skip h2 (by decide) (bE_text hm h3)) hm h3 (stops_cons (by decide)) (bE_stop hz (by decide))
  have hms : memsT l 2 ([], false) = some (3 + (textL a).length, [spT 3 a], false) := mems_done (memT_le l) (mems_last (by omega) hmem (by rw [at_drop hz]; decide))
  have hin : innerE l (1 + 1) ([], false) = some (3 + (textL a).length + 1, [spT 3 a], false) := by
    unfold innerE
    rw [hms]
    simp only
    rw [if_pos (at_drop hz)]
  refine find_mem ?_ (by simp)
  have := group_mem (bE_stop h0 (by decide)) hw (by decide) (at_drop h1) hin (bE_end hy)
  rw [hlen] at this
  exact this
/-- in a group, two times. -/
theorem form6 : findL ([103, 32, 104, 58, 44] ++ (textL a ++ ([44, 60] ++ (textL a ++ [62, 59])))) = ([spT 5 a, spT (5 + (textL a).length + 2) a], 0) := by
  generalize hl : [103, 32, 104, 58, 44] ++ (textL a ++ ([44, 60] ++ (textL a ++ [62, 59]))) = l
  have hlen : 5 + (textL a).length + 2 + (textL a).length + 1 + 1 = l.length := by rw [← hl]; simp; omega
  have h0 : l.drop 0 = [103] ++ 32 :: 104 :: 58 :: 44 :: (textL a ++ ([44, 60] ++ (textL a ++ [62, 59]))) := by rw [← hl]; rfl
  have h1 : l.drop 1 = 32 :: 104 :: 58 :: 44 :: (textL a ++ ([44, 60] ++ (textL a ++ [62, 59]))) := by rw [← hl]; rfl
  have h2 : l.drop 2 = [104] ++ 58 :: 44 :: (textL a ++ ([44, 60] ++ (textL a ++ [62, 59]))) := by rw [← hl]; rfl
  have h3 : l.drop 3 = 58 :: 44 :: (textL a ++ ([44, 60] ++ (textL a ++ [62, 59]))) := by rw [← hl]; rfl
  have h4 : l.drop 4 = 44 :: (textL a ++ ([44, 60] ++ (textL a ++ [62, 59]))) := by rw [← hl]; rfl
  have h5 : l.drop 5 = textL a ++ ([44, 60] ++ (textL a ++ [62, 59])) := by rw [← hl]; rfl
  have hz := drop_more h5
  have hy : l.drop (5 + (textL a).length + 1) = 60 :: (textL a ++ [62, 59]) := drop_one hz
  have hx : l.drop (5 + (textL a).length + 2) = textL a ++ [62, 59] := drop_one hy
  have hu := drop_more hx
  have hv := drop_one hu
  have ht := drop_one hv
  have hw3 : wordE l 3 = some 3 := by
    have := wE_run (p := []) (k := 3) h3 (by simp) (by simp) (by simp) (stops_cons (by decide))
    simpa using this
  have hw4 : wordE l 4 = some 4 := by
    have := wE_run (p := []) (k := 4) h4 (by simp) (by simp) (by simp) (stops_cons (by decide))
    simpa using this
  have hwy : wordE l (5 + (textL a).length + 1) = some (5 + (textL a).length + 1) := by
    have := wE_run (p := []) (k := 5 + (textL a).length + 1) hy (by simp) (by simp) (by simp) (stops_cons (by decide))
    simpa using this
  have w1 : wordE l 0 = some 1 := wE_run h0 (by decide) (by decide) (by simp) (stops_cons (by decide))
  have w2 : wordE l 2 = some 3 := wE_run h2 (by decide) (by decide) (by simp) (stops_cons (by decide))
  have b1 : blankE l 1 = some 2 := bE_skip h1 (by decide) (bE_stop h2 (by decide))
  have hw : Words l 0 0 0 (3, 2, 3) := words_step (by omega) w1 (by omega) b1 (words_step (by omega) w2 (by omega) (bE_stop h3 (by decide)) (words_stop (by omega) hw3))
  have hro : rouE l (5 + (textL a).length + 2) false = some (5 + (textL a).length + 2, false) := by
    obtain ⟨c, t, hc, -, -, -, -, h64⟩ := word_first hm
    have hx' := hx
    rw [hc, List.cons_append] at hx'
    unfold rouE
    rw [hc]
    rw [if_neg (by rw [← hc]; rw [← hc] at hx'; rw [at_drop (c := c) (r := t ++ [62, 59]) (by rw [hx, hc]; rfl)]; simpa using h64)]
  have m1 : memT l 4 ([], false) = some (4, [], false) := none_mem (bE_stop h4 (by decide)) hw4 (by omega) (by rw [at_drop h4]; decide) (by rw [at_drop h4]; decide) (bE_stop h4 (by decide))
  have m2 : memT l (4 + 1) ([], false) = some (5 + (textL a).length, [spT 5 a], false) := bare_mem (st := ([], false)) (bE_text hm h5) hm h5 (stops_cons (by decide)) (bE_stop hz (by decide))
  have m3 : memT l (5 + (textL a).length + 1) ([spT 5 a], false) = some (5 + (textL a).length + 2 + (textL a).length + 1, [spT 5 a, spT (5 + (textL a).length + 2) a], false) :=
    ang_mem (st := ([spT 5 a], false)) (bE_stop hy (by decide)) (words_stop (by omega) hwy) (at_drop hy) (bE_text hm hx) hro (bE_text hm hx) hm hx (stops_cons (by decide)) (bE_stop hu (by decide)) (at_drop hu) (bE_stop hv (by decide))
  have hms : memsT l 4 ([], false) = some (5 + (textL a).length + 2 + (textL a).length + 1, [spT 5 a, spT (5 + (textL a).length + 2) a], false) :=
    mems_done (memT_le l) (mems_step (memT_le l) (by omega) m1 (at_drop h4) (mems_step (memT_le l) (by omega) m2 (at_drop hz) (mems_last (by omega) m3 (by rw [at_drop hv]; decide))))
  have hin : innerE l (3 + 1) ([], false) = some (5 + (textL a).length + 2 + (textL a).length + 1 + 1, [spT 5 a, spT (5 + (textL a).length + 2) a], false) := by
    unfold innerE
    rw [hms]
    simp only
    rw [if_pos (at_drop hv)]
  refine find_mem ?_ (by simp)
  have := group_mem (bE_stop h0 (by decide)) hw (by decide) (at_drop h3) hin (bE_end ht)
  rw [hlen] at this
  exact this
end
theorem form7 : findL [44] = ([], 0) := by decide +kernel
theorem form_none : findL [] = ([], 0) := by decide +kernel
end Go.Proofs.YtffngbjnbigipaaGreatDoor
