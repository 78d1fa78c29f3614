/- Several texts joined into one (a claim has a limit of files). -/
import Derived.Test.YtffngbjnbigipaaGreatDoorBackL
import Derived.Lib.Fold
/- What the law's Made makes may be: plain Lean. -/
namespace Go.Proofs.YtffngbjnbigipaaGreatDoor
open Go.RowKit Go.Lib
set_option linter.unusedSimpArgs false
set_option linter.unusedVariables false
set_option linter.unnecessarySimpa false
set_option maxRecDepth 100000

/-- each pair p q, from the left, is another text. -/
def rw2 (p q : UInt8) (new : List UInt8) : List UInt8 → List UInt8
  | [] => []
  | [a] => [a]
  | a :: b :: l => if a = p ∧ b = q then new ++ rw2 p q new l else a :: rw2 p q new (b :: l)
theorem pre2 (p q a b : UInt8) (l : List UInt8) : ([p, q] : List UInt8).isPrefixOf (a :: b :: l) = true ↔ a = p ∧ b = q := by
  simp [List.isPrefixOf]
  exact ⟨fun h => ⟨h.1.symm, h.2.symm⟩, fun h => ⟨h.1.symm, h.2.symm⟩⟩
theorem index2_none (p q : UInt8) (new : List UInt8) : ∀ s : List UInt8, Lib.index s [p, q] = -1 → rw2 p q new s = s
  | [], _ => rfl
  | [a], _ => rfl
  | a :: b :: l, h => by
    have e : Lib.index (a :: b :: l) [p, q] = if ([p, q] : List UInt8).isPrefixOf (a :: b :: l) then 0 else if Lib.index (b :: l) [p, q] == -1 then -1 else Lib.index (b :: l) [p, q] + 1 := rfl
    rw [e] at h
    by_cases hp : a = p ∧ b = q
    · rw [if_pos ((pre2 p q a b l).2 hp)] at h; cases h
    · rw [if_neg (fun x => hp ((pre2 p q a b l).1 x))] at h
      have hge := Lib.index_ge (b :: l) [p, q]
      have h1 : Lib.index (b :: l) [p, q] = -1 := by
        by_cases hx : Lib.index (b :: l) [p, q] = -1
        · exact hx
        · rw [if_neg (by simpa using hx)] at h; omega
      rw [rw2, if_neg hp, index2_none p q new (b :: l) h1]
theorem index2_some (p q : UInt8) (new : List UInt8) : ∀ (s : List UInt8) (i : Nat), Lib.index s [p, q] = i → rw2 p q new s = s.take i ++ new ++ rw2 p q new (s.drop (i + 2))
  | [], i, h => by
    have e : Lib.index [] [p, q] = -1 := rfl
    rw [e] at h; omega
  | [a], i, h => by
    have e : Lib.index [a] [p, q] = -1 := by
      show (if ([p, q] : List UInt8).isPrefixOf [a] then (0 : Int) else if Lib.index [] [p, q] == -1 then -1 else Lib.index [] [p, q] + 1) = -1
      rw [if_neg (by simp [List.isPrefixOf])]
      rfl
    rw [e] at h; omega
  | a :: b :: l, i, h => by
    have e : Lib.index (a :: b :: l) [p, q] = if ([p, q] : List UInt8).isPrefixOf (a :: b :: l) then 0 else if Lib.index (b :: l) [p, q] == -1 then -1 else Lib.index (b :: l) [p, q] + 1 := rfl
    rw [e] at h
    by_cases hp : a = p ∧ b = q
    · rw [if_pos ((pre2 p q a b l).2 hp)] at h
      obtain rfl : i = 0 := by omega
      rw [rw2, if_pos hp]
      simp
    · rw [if_neg (fun x => hp ((pre2 p q a b l).1 x))] at h
      have hge := Lib.index_ge (b :: l) [p, q]
      by_cases hx : Lib.index (b :: l) [p, q] = -1
      · rw [if_pos (by simpa using hx)] at h; omega
      · rw [if_neg (by simpa using hx)] at h
        obtain ⟨j, rfl⟩ : ∃ j, i = j + 1 := ⟨i - 1, by omega⟩
        have ih := index2_some p q new (b :: l) j (by omega)
        rw [rw2, if_neg hp, ih]
        rfl
theorem replK_rw2 (p q : UInt8) (new : List UInt8) : ∀ (k : Nat) (s : List UInt8), Lib.count s [p, q] = k → Lib.replaceK [p, q] new k s = rw2 p q new s
  | 0, s, h => by
    rcases Lib.index_spec s [p, q] with ⟨h1, _⟩ | ⟨i, h1, _⟩
    · rw [index2_none p q new s h1]; rfl
    · rw [Lib.count_hit (by simp) h1] at h; omega
  | k + 1, s, h => by
    rcases Lib.index_spec s [p, q] with ⟨h1, _⟩ | ⟨i, h1, _⟩
    · rw [Lib.count_miss h1] at h; omega
    · have h2 := h
      rw [Lib.count_hit (by simp) h1] at h2
      rw [Lib.replaceK_hit [p, q] new k s i h1, index2_some p q new s i h1, replK_rw2 p q new k _ (by omega)]
      rfl
theorem repl_rw2 (p q : UInt8) (new s : List UInt8) (h : ([p, q] == new) = false) : Lib.replaceAll s [p, q] new = rw2 p q new s := by
  unfold Lib.replaceAll Lib.replace
  rw [h]
  simp only [Bool.false_eq_true, if_false]
  refine replK_rw2 p q new _ s ?_
  unfold Lib.replaceNum
  rw [if_pos (Or.inl (by decide))]

/-! the first two: letters turn, places stay -/
theorem step1_get : ∀ (s : List UInt8) (i : Nat), (rw2 45 46 [120, 46] s)[i]? = s[i]?.map fun a => if a = 45 ∧ s[i + 1]? = some 46 then 120 else a
  | [], i => by simp [rw2]
  | [a], i => by
    cases i with
    | zero => simp [rw2]
    | succ i => simp [rw2]
  | a :: b :: l, i => by
    by_cases hp : a = 45 ∧ b = 46
    · rw [rw2, if_pos hp]
      obtain ⟨rfl, rfl⟩ := hp
      match i with
      | 0 => simp
      | 1 => simp
      | i + 2 =>
        have := step1_get l i
        simpa using this
    · rw [rw2, if_neg hp]
      match i with
      | 0 =>
        have : ¬ (a = 45 ∧ b = 46) := hp
        simp [this]
      | i + 1 =>
        have := step1_get (b :: l) i
        simpa using this
theorem step2_get : ∀ (s : List UInt8), (rw2 46 45 [46, 121] s)[0]? = s[0]? ∧ ∀ i, (rw2 46 45 [46, 121] s)[i + 1]? = s[i + 1]?.map fun a => if a = 45 ∧ s[i]? = some 46 then 121 else a
  | [] => by simp [rw2]
  | [a] => by simp [rw2]
  | a :: b :: l => by
    by_cases hp : a = 46 ∧ b = 45
    · rw [rw2, if_pos hp]
      obtain ⟨rfl, rfl⟩ := hp
      obtain ⟨h0, h1⟩ := step2_get l
      refine ⟨rfl, fun i => ?_⟩
      match i with
      | 0 => simp
      | 1 =>
        show (rw2 46 45 [46, 121] l)[0]? = l[0]?.map fun a => if a = 45 ∧ some (45 : UInt8) = some 46 then 121 else a
        rw [h0]
        cases l[0]? with
        | none => rfl
        | some x => simp
      | i + 2 =>
        have := h1 i
        simpa using this
    · rw [rw2, if_neg hp]
      obtain ⟨h0, h1⟩ := step2_get (b :: l)
      refine ⟨rfl, fun i => ?_⟩
      match i with
      | 0 =>
        show (rw2 46 45 [46, 121] (b :: l))[0]? = some (if b = 45 ∧ some a = some 46 then 121 else b)
        rw [h0]
        have : ¬ (b = 45 ∧ some a = some (46 : UInt8)) := fun h => hp ⟨Option.some.inj h.2, h.1⟩
        rw [if_neg this]
        rfl
      | i + 1 =>
        have := h1 i
        simpa using this
theorem step3_none : ∀ (s : List UInt8), (∀ i : Nat, ¬ (s[i]? = some 46 ∧ s[i + 1]? = some 46)) → rw2 46 46 [46, 122, 46] s = s
  | [], _ => rfl
  | [a], _ => rfl
  | a :: b :: l, h => by
    have hp : ¬ (a = 46 ∧ b = 46) := fun hp => h 0 (by simp [hp.1, hp.2])
    rw [rw2, if_neg hp, step3_none (b :: l) (fun i hi => h (i + 1) (by simpa using hi))]
theorem step3_end : ∀ (u : List UInt8), (∀ i : Nat, ¬ ((u ++ [46])[i]? = some 46 ∧ (u ++ [46])[i + 1]? = some 46)) → rw2 46 46 [46, 122, 46] (u ++ [46, 46]) = u ++ [46, 122, 46]
  | [], _ => by simp [rw2]
  | [a], h => by
    have hp : ¬ a = 46 := fun hp => h 0 (by simp [hp])
    show rw2 46 46 [46, 122, 46] (a :: 46 :: [46]) = _
    rw [rw2, if_neg (fun x => hp x.1)]
    simp [rw2]
  | a :: b :: l, h => by
    have hp : ¬ (a = 46 ∧ b = 46) := fun hp => h 0 (by simp [hp.1, hp.2])
    have ih := step3_end (b :: l) (fun i hi => h (i + 1) (by simpa using hi))
    show rw2 46 46 [46, 122, 46] (a :: b :: (l ++ [46, 46])) = _
    rw [rw2, if_neg hp]
    have ih2 : rw2 46 46 [46, 122, 46] (b :: (l ++ [46, 46])) = b :: (l ++ [46, 122, 46]) := by simpa using ih
    rw [ih2]
    simp
/-! a domain by its neighbours -/
def okC : UInt8 → List UInt8 → Prop
  | p, [] => p ≠ 45 ∧ p ≠ 46
  | p, x :: xs => (x = 46 ∨ hostB x = true) ∧ ¬ (p = 46 ∧ (x = 46 ∨ x = 45)) ∧ ¬ (p = 45 ∧ x = 46) ∧ okC x xs
theorem okC_go : ∀ (xs cur : List UInt8) (p : UInt8), okC p xs → (cur = [] ∧ p = 46 ∨ ∃ c, cur = c ++ [p] ∧ cur.head? ≠ some 45 ∧ p ≠ 46) → cur.length + xs.length ≤ 63 → domGo cur xs false = 0
  | [], cur, p, h, hc, hl => by
    obtain ⟨h1, h2⟩ := h
    rcases hc with ⟨_, hc⟩ | ⟨c, rfl, hh, _⟩
    · exact absurd hc h2
    · unfold domGo
      have he : edgeB (c ++ [p]) = true := by
        unfold edgeB
        simp only [Bool.and_eq_true]
        refine ⟨⟨by simp, by simpa using hh⟩, by simpa using h1⟩
      rw [if_pos he]
      simp only [List.length_nil, Nat.add_zero] at hl
      rw [decide_eq_false (by omega)]
      rfl
  | x :: xs, cur, p, h, hc, hl => by
    obtain ⟨h1, h2, h3, h4⟩ := h
    simp only [List.length_cons] at hl
    unfold domGo
    by_cases hx : x = 46
    · subst hx
      rw [if_pos (by rfl)]
      rcases hc with ⟨_, hc⟩ | ⟨c, rfl, hh, hp⟩
      · exact absurd ⟨hc, .inl rfl⟩ h2
      · have he : edgeB (c ++ [p]) = true := by
          unfold edgeB
          simp only [Bool.and_eq_true]
          refine ⟨⟨by simp, by simpa using hh⟩, ?_⟩
          have : p ≠ 45 := fun e => h3 ⟨e, rfl⟩
          simpa using this
        rw [if_pos he, decide_eq_false (by omega)]
        exact okC_go xs [] 46 h4 (.inl ⟨rfl, rfl⟩) (by simp only [List.length_nil]; omega)
    · have hx2 : ¬ x.toNat = 46 := fun e => hx (UInt8.toNat_inj.1 e)
      rw [if_neg hx2, if_pos (h1.resolve_left hx)]
      refine okC_go xs (cur ++ [x]) x h4 (.inr ⟨cur, rfl, ?_, hx⟩) (by simp only [List.length_append, List.length_cons, List.length_nil]; omega)
      rcases hc with ⟨rfl, hc⟩ | ⟨c, rfl, hh, hp⟩
      · have : x ≠ 45 := fun e => h2 ⟨hc, .inr e⟩
        simpa using this
      · rw [List.append_assoc]
        cases c with
        | nil => simpa using hh
        | cons a c => simpa using hh
theorem okC_of : ∀ (t : List UInt8) (p : UInt8), (∀ b ∈ t, b = 46 ∨ hostB b = true) → (∀ (i : Nat) (a b : UInt8), (p :: t)[i]? = some a → t[i]? = some b → ¬ (a = 46 ∧ (b = 46 ∨ b = 45)) ∧ ¬ (a = 45 ∧ b = 46)) → (∀ a : UInt8, (p :: t).getLast? = some a → a ≠ 45 ∧ a ≠ 46) → okC p t
  | [], p, _, _, hl => hl p rfl
  | x :: xs, p, hb, ha, hl => by
    obtain ⟨h1, h2⟩ := ha 0 p x rfl rfl
    refine ⟨hb x List.mem_cons_self, h1, h2, okC_of xs x (fun b hm => hb b (List.mem_cons_of_mem _ hm)) (fun i a b h3 h4 => ha (i + 1) a b (by simpa using h3) (by simpa using h4)) (fun a h => hl a ?_)⟩
    rw [List.getLast?_cons_cons]
    exact h
end Go.Proofs.YtffngbjnbigipaaGreatDoor

/- What the law's Made makes may be: its domain, its local part. Plain Lean. -/
namespace Go.Proofs.YtffngbjnbigipaaGreatDoor
open Go.RowKit Go.Lib
set_option linter.unusedSimpArgs false
set_option linter.unusedVariables false
set_option linter.unnecessarySimpa false
set_option maxRecDepth 100000

theorem rw2_len (p q a b : UInt8) : ∀ s : List UInt8, (rw2 p q [a, b] s).length = s.length
  | [] => rfl
  | [x] => rfl
  | x :: y :: l => by
    rw [rw2]
    split
    · simp [rw2_len p q a b l]
    · simp [rw2_len p q a b (y :: l)]
theorem rep1_eq (y : List UInt8) : rep1 y = rw2 45 46 [120, 46] (namL y ++ [46]) := repl_rw2 45 46 [120, 46] _ (by decide)
theorem rep2_eq (y : List UInt8) : rep2 y = rw2 46 45 [46, 121] (rep1 y) := repl_rw2 46 45 [46, 121] _ (by decide)
theorem rep3_eq (y : List UInt8) : rep3 y = rw2 46 46 [46, 122, 46] (rep2 y) := repl_rw2 46 46 [46, 122, 46] _ (by decide)
theorem tab_not : ∀ j < 14, tabM.getD j 0 ≠ 46 := by decide
theorem tab_host : ∀ j < 14, hostB (tabM.getD j 0) = true := by decide
theorem nam_get (y : List UInt8) (i : Nat) (h : i < (namL y).length) : ∃ b, (namL y)[i]? = some (namB i b) := by
  have h' : i < (y.take 60).length := by unfold namL at h; simpa using h
  refine ⟨(y.take 60)[i], ?_⟩
  unfold namL
  rw [List.getElem?_mapIdx, List.getElem?_eq_getElem h']
  rfl
theorem s0_dot (y : List UInt8) (i : Nat) : (namL y ++ [46])[i]? = some 46 ↔ (i < (namL y).length ∧ i % 9 = 8) ∨ i = (namL y).length := by
  by_cases h : i < (namL y).length
  · rw [List.getElem?_append_left h]
    obtain ⟨b, hb⟩ := nam_get y i h
    rw [hb]
    by_cases h8 : i % 9 = 8
    · unfold namB
      rw [if_pos h8]
      exact ⟨fun _ => .inl ⟨h, h8⟩, fun _ => rfl⟩
    · unfold namB
      rw [if_neg h8]
      refine ⟨fun e => absurd (Option.some.inj e) (tab_not _ (Nat.mod_lt _ (by decide))), fun e => ?_⟩
      rcases e with e | e
      · exact absurd e.2 h8
      · omega
  · rw [List.getElem?_append_right (by omega)]
    by_cases he : i = (namL y).length
    · subst he
      exact ⟨fun _ => .inr rfl, fun _ => by simp⟩
    · rw [List.getElem?_eq_none (by simp; omega)]
      refine ⟨fun e => (by cases e), fun e => ?_⟩
      rcases e with e | e
      · exact absurd e.1 h
      · exact absurd e he
theorem s1_val {s : List UInt8} {i : Nat} {c : UInt8} (h : (rw2 45 46 [120, 46] s)[i]? = some c) (hc : c ≠ 120) : s[i]? = some c ∧ ¬ (c = 45 ∧ s[i + 1]? = some 46) := by
  rw [step1_get] at h
  cases hs : s[i]? with
  | none => rw [hs] at h; cases h
  | some a =>
    rw [hs] at h
    simp only [Option.map_some, Option.some.injEq] at h
    by_cases hp : a = 45 ∧ s[i + 1]? = some 46
    · rw [if_pos hp] at h; exact absurd h.symm hc
    · rw [if_neg hp] at h
      subst h
      exact ⟨rfl, hp⟩
theorem s1_dot (s : List UInt8) (i : Nat) : (rw2 45 46 [120, 46] s)[i]? = some 46 ↔ s[i]? = some 46 := by
  refine ⟨fun h => (s1_val h (by decide)).1, fun h => ?_⟩
  rw [step1_get, h]
  rfl
theorem s2_val {s : List UInt8} {i : Nat} {c : UInt8} (h : (rw2 46 45 [46, 121] s)[i]? = some c) (hc : c ≠ 121) : s[i]? = some c ∧ ∀ j : Nat, i = j + 1 → ¬ (c = 45 ∧ s[j]? = some 46) := by
  cases i with
  | zero =>
    rw [(step2_get s).1] at h
    exact ⟨h, fun j hj => by omega⟩
  | succ i =>
    rw [(step2_get s).2] at h
    cases hs : s[i + 1]? with
    | none => rw [hs] at h; cases h
    | some a =>
      rw [hs] at h
      simp only [Option.map_some, Option.some.injEq] at h
      by_cases hp : a = 45 ∧ s[i]? = some 46
      · rw [if_pos hp] at h; exact absurd h.symm hc
      · rw [if_neg hp] at h
        subst h
        exact ⟨rfl, fun j hj => by obtain rfl : i = j := by omega
                                   exact hp⟩
theorem s2_dot (s : List UInt8) (i : Nat) : (rw2 46 45 [46, 121] s)[i]? = some 46 ↔ s[i]? = some 46 := by
  refine ⟨fun h => (s2_val h (by decide)).1, fun h => ?_⟩
  cases i with
  | zero => rw [(step2_get s).1]; exact h
  | succ i =>
    rw [(step2_get s).2, h]
    rfl
/-- the bytes behind the first two replacings: where the dots stand, who stands by them. -/
structure Mid (n : Nat) (s : List UInt8) : Prop where
  len : s.length = n + 1
  dot : ∀ i : Nat, s[i]? = some 46 ↔ (i < n ∧ i % 9 = 8) ∨ i = n
  a : ∀ i : Nat, ¬ (s[i]? = some 45 ∧ s[i + 1]? = some 46)
  b : ∀ i : Nat, ¬ (s[i]? = some 46 ∧ s[i + 1]? = some 45)
  host : ∀ c ∈ s, c = 46 ∨ hostB c = true
theorem rep2_mid (y : List UInt8) : Mid (namL y).length (rep2 y) := by
  have hd1 : ∀ i : Nat, (rep1 y)[i]? = some 46 ↔ (namL y ++ [46])[i]? = some 46 := fun i => by rw [rep1_eq]; exact s1_dot _ i
  have hd2 : ∀ i : Nat, (rep2 y)[i]? = some 46 ↔ (namL y ++ [46])[i]? = some 46 := fun i => by rw [rep2_eq, s2_dot]; exact hd1 i
  refine ⟨by rw [rep2_eq, rw2_len, rep1_eq, rw2_len]; simp, fun i => (hd2 i).trans (s0_dot y i), fun i h => ?_, fun i h => ?_, ?_⟩
  · have h1 := h.1
    rw [rep2_eq] at h1
    have h2 := (s2_val h1 (by decide)).1
    rw [rep1_eq] at h2
    exact (s1_val h2 (by decide)).2 ⟨rfl, (hd2 (i + 1)).1 h.2⟩
  · have h1 := h.2
    rw [rep2_eq] at h1
    exact (s2_val h1 (by decide)).2 i rfl ⟨rfl, (hd1 i).2 ((hd2 i).1 h.1)⟩
  · unfold rep2 rep1
    refine repl_all (fun c => c = 46 ∨ hostB c = true) (repl_all _ ?_ (by decide)) (by decide)
    intro c hc
    rcases List.mem_append.1 hc with hc | hc
    · unfold namL at hc
      obtain ⟨i, h, rfl⟩ := List.mem_mapIdx.1 hc
      unfold namB
      split
      · exact .inl rfl
      · exact .inr (tab_host _ (Nat.mod_lt _ (by decide)))
    · exact .inl (List.mem_singleton.1 hc)
theorem trim_dot (l : List UInt8) : Lib.trimSuffix (l ++ [46]) [46] = l := by
  unfold Lib.trimSuffix
  rw [if_pos (suf_app l [46])]
  simp
theorem take_get {s : List UInt8} {n i : Nat} {c : UInt8} (h : (s.take n)[i]? = some c) : i < n ∧ s[i]? = some c := by
  rw [List.getElem?_take] at h
  split at h
  · exact ⟨by assumption, h⟩
  · cases h
theorem take_last {s : List UInt8} {n : Nat} (hl : s.length = n + 1) (hd : s[n]? = some 46) : s = s.take n ++ [46] := by
  have h1 : s.take (n + 1) = s := List.take_of_length_le (by omega)
  have h2 := List.take_add_one (l := s) (i := n)
  rw [h1, hd] at h2
  exact h2
theorem mid_pairs {n : Nat} {s : List UInt8} (h : Mid n s) {i : Nat} {a b : UInt8} (h1 : (s.take n)[i]? = some a) (h2 : (s.take n)[i + 1]? = some b) : ¬ (a = 46 ∧ (b = 46 ∨ b = 45)) ∧ ¬ (a = 45 ∧ b = 46) := by
  obtain ⟨l1, g1⟩ := take_get h1
  obtain ⟨l2, g2⟩ := take_get h2
  refine ⟨?_, ?_⟩
  · rintro ⟨rfl, rfl | rfl⟩
    · have d1 := (h.dot i).1 g1
      have d2 := (h.dot (i + 1)).1 g2
      omega
    · exact h.b i ⟨g1, g2⟩
  · rintro ⟨rfl, rfl⟩
    exact h.a i ⟨g1, g2⟩
/-- what is left behind the last replacing. -/
theorem mid_end {n : Nat} {s : List UInt8} (h : Mid n s) : ∃ e : List UInt8, Lib.trimSuffix (rw2 46 46 [46, 122, 46] s) [46] = s.take n ++ e ∧ (e = [122] ∨ e = [] ∧ ¬ (n % 9 = 0 ∧ 0 < n)) := by
  have hs := take_last h.len ((h.dot n).2 (.inr rfl))
  by_cases hn : n % 9 = 0 ∧ 0 < n
  · obtain ⟨m, rfl⟩ : ∃ m, n = m + 1 := ⟨n - 1, by omega⟩
    have hm : s[m]? = some 46 := (h.dot m).2 (.inl ⟨by omega, by omega⟩)
    have ht : s.take (m + 1) = s.take m ++ [46] := by
      rw [List.take_add_one, hm]
      rfl
    refine ⟨[122], ?_, .inl rfl⟩
    have hs2 : s = s.take m ++ [46, 46] := by
      rw [ht] at hs
      rw [List.append_assoc] at hs
      exact hs
    have h3 := step3_end (s.take m) (fun i hi => by
      rw [← ht] at hi
      exact (mid_pairs h hi.1 hi.2).1 ⟨rfl, .inl rfl⟩)
    rw [← hs2] at h3
    rw [h3, show s.take m ++ [46, 122, 46] = (s.take m ++ [46, 122]) ++ [46] by simp, trim_dot, ht]
    simp
  · refine ⟨[], ?_, .inr ⟨rfl, hn⟩⟩
    have h3 := step3_none s (fun i hi => by
      have d1 := (h.dot i).1 hi.1
      have d2 := (h.dot (i + 1)).1 hi.2
      omega)
    rw [h3]
    conv => lhs; rw [hs]
    rw [trim_dot, List.append_nil]
theorem dom_ok (y : List UInt8) : domL (domM y) = 0 := by
  have hm := rep2_mid y
  have hn := nam_len y
  obtain ⟨e, he, hcase⟩ := mid_end hm
  generalize (namL y).length = n at hm hn he hcase
  have hd : domM y = 100 :: ((rep2 y).take n ++ e) := by
    unfold domM
    rw [rep3_eq, he]
  rw [hd]
  generalize rep2 y = s at hm
  have hel : e.length ≤ 1 := by rcases hcase with rfl | ⟨rfl, _⟩ <;> simp
  have htl : (s.take n).length = n := by rw [List.length_take, hm.len]; omega
  have hlen : ((s.take n) ++ e).length ≤ 61 := by rw [List.length_append, htl]; omega
  have hok : okC 100 (s.take n ++ e) := by
    refine okC_of _ 100 ?_ ?_ ?_
    · intro c hc
      rcases List.mem_append.1 hc with hc | hc
      · exact hm.host c (List.mem_of_mem_take hc)
      · rcases hcase with rfl | ⟨rfl, _⟩
        · obtain rfl := List.mem_singleton.1 hc
          exact .inr (by decide)
        · cases hc
    · intro i a b h1 h2
      cases i with
      | zero =>
        simp only [List.getElem?_cons_zero, Option.some.injEq] at h1
        subst h1
        exact ⟨fun h => absurd h.1 (by decide), fun h => absurd h.1 (by decide)⟩
      | succ i =>
        simp only [List.getElem?_cons_succ] at h1
        by_cases hi : i + 1 < n
        · rw [List.getElem?_append_left (by omega)] at h1 h2
          exact mid_pairs hm h1 h2
        · rw [List.getElem?_append_right (by omega)] at h2
          rcases hcase with rfl | ⟨rfl, _⟩
          · have hb : b ∈ [(122 : UInt8)] := List.mem_of_getElem? h2
            obtain rfl := List.mem_singleton.1 hb
            exact ⟨fun h => by rcases h.2 with h | h <;> exact absurd h (by decide), fun h => absurd h.2 (by decide)⟩
          · simp at h2
    · intro a ha
      rcases hcase with rfl | ⟨rfl, hnn⟩
      · rw [show (100 : UInt8) :: (s.take n ++ [122]) = (100 :: s.take n) ++ [122] by simp, List.getLast?_append] at ha
        simp only [List.getLast?_singleton, Option.some_or, Option.some.injEq] at ha
        subst ha
        exact ⟨by decide, by decide⟩
      · rw [List.append_nil] at ha
        rcases Nat.eq_zero_or_pos n with rfl | hpos
        · simp only [List.take_zero, List.getLast?_singleton, Option.some.injEq] at ha
          subst ha
          exact ⟨by decide, by decide⟩
        · obtain ⟨m, rfl⟩ : ∃ m, n = m + 1 := ⟨n - 1, by omega⟩
          have hne : s.take (m + 1) ≠ [] := by
            intro h
            rw [h] at htl
            simp at htl
          rw [List.getLast?_cons, List.getLast?_eq_getElem?, htl] at ha
          simp only [Nat.add_sub_cancel] at ha
          cases hx : (s.take (m + 1))[m]? with
          | none =>
            rw [List.getElem?_eq_none_iff] at hx
            omega
          | some c =>
            rw [hx] at ha
            simp only [Option.getD_some, Option.some.injEq] at ha
            subst ha
            obtain ⟨_, hg⟩ := take_get hx
            refine ⟨?_, ?_⟩
            · rintro rfl
              exact hm.a m ⟨hg, (hm.dot (m + 1)).2 (.inr rfl)⟩
            · rintro rfl
              have := (hm.dot m).1 hg
              omega
  generalize s.take n ++ e = t at hlen hok
  unfold domL
  rw [if_neg (by simp), ← domGo_domP, decide_eq_false (by simp only [List.length_cons]; omega)]
  unfold domGo
  rw [if_neg (by decide), if_pos (by decide)]
  exact okC_go t _ 100 hok (.inr ⟨[], rfl, by decide, by decide⟩) (by simp only [List.nil_append, List.length_cons, List.length_nil]; omega)
theorem loc_plain (b : UInt8) : plainB (locB b).toNat = true := byte_all (fun b => plainB (locB b).toNat) (by decide) b
/-- what Made makes may be. -/
theorem made_may (x y : List UInt8) : mayL (locL x, domM y) = true := by
  unfold mayL
  simp only [Bool.and_eq_true, decide_eq_true_eq]
  refine ⟨⟨⟨?_, loc_len x⟩, ?_⟩, dom_ok y⟩
  · unfold locL
    split
    · rfl
    · rename_i h
      cases hx : x.take 64 with
      | nil => exact absurd hx h
      | cons a l => rfl
  · unfold plainL locL
    split
    · decide
    · rw [List.all_eq_true]
      intro b hb
      obtain ⟨c, _, rfl⟩ := List.mem_map.1 hb
      exact loc_plain c
end Go.Proofs.YtffngbjnbigipaaGreatDoor

/- Normal forms of addresses: they may be; who is the same. Plain Lean. -/
namespace Go.Proofs.YtffngbjnbigipaaGreatDoor
open Go.RowKit Go.Lib
set_option linter.unusedSimpArgs false
set_option linter.unusedVariables false
set_option linter.unnecessarySimpa false
set_option maxRecDepth 100000

theorem low_idemB (b : UInt8) : lowB (lowB b) = lowB b := by
  have := byte_all (fun b => lowB (lowB b) == lowB b) (by decide) b
  simpa using this
theorem low_idem (l : List UInt8) : lowL (lowL l) = lowL l := by
  unfold lowL
  rw [List.map_map]
  exact List.map_congr_left fun b _ => low_idemB b
theorem low_host (b : UInt8) : hostB (lowB b) = hostB b := by
  have := byte_all (fun b => hostB (lowB b) == hostB b) (by decide) b
  simpa using this
theorem low_dash (b : UInt8) : (lowB b == 45) = (b == 45) := by
  have := byte_all (fun b => (lowB b == 45) == (b == 45)) (by decide) b
  simpa using this
theorem low_dot (b : UInt8) : ((lowB b).toNat = 46) ↔ (b.toNat = 46) := by
  have := byte_all (fun b => decide ((lowB b).toNat = 46) == decide (b.toNat = 46)) (by decide) b
  simpa using this
theorem low_fix {b : UInt8} (h : digitB b = true ∨ b = 46 ∨ b = 91 ∨ b = 93) : lowB b = b := by
  have := byte_all (fun b => !(digitB b || b == 46 || b == 91 || b == 93) || (lowB b == b)) (by decide) b
  rcases h with h | rfl | rfl | rfl
  · simp only [h, Bool.true_or, Bool.not_true, Bool.false_or, beq_iff_eq] at this
    exact this
  · rfl
  · rfl
  · rfl
theorem low_edge (cur : List UInt8) : edgeB (lowL cur) = edgeB cur := by
  have hd : ∀ o : Option UInt8, (o.map lowB != some 45) = (o != some 45) := fun o => by
    cases o with
    | none => rfl
    | some b =>
      have := low_dash b
      simp only [Option.map_some, bne, Option.some_beq_some, this]
  unfold edgeB lowL
  rw [List.head?_map, List.getLast?_map, hd, hd]
  cases cur <;> rfl
theorem low_go : ∀ (l cur : List UInt8) (long : Bool), domGo (lowL cur) (lowL l) long = domGo cur l long
  | [], cur, long => by
    show domGo (lowL cur) [] long = _
    unfold domGo
    rw [low_edge]
    simp [lowL]
  | x :: xs, cur, long => by
    have e : lowL (x :: xs) = lowB x :: lowL xs := rfl
    rw [e]
    unfold domGo
    rw [low_edge, low_host]
    have hl : (lowL cur).length = cur.length := by simp [lowL]
    rw [hl]
    by_cases hx : x.toNat = 46
    · rw [if_pos hx, if_pos ((low_dot x).2 hx)]
      have := low_go xs [] (long || decide (63 < cur.length))
      rw [show lowL [] = [] from rfl] at this
      rw [this]
    · rw [if_neg hx, if_neg (fun h => hx ((low_dot x).1 h))]
      have := low_go xs (cur ++ [x]) long
      rw [low_app] at this
      rw [show lowL cur ++ [lowB x] = lowL cur ++ lowL [x] from rfl, this]
theorem pieces_mem (c : UInt8) : ∀ (l : List UInt8) (b : UInt8), b ∈ l → b = c ∨ ∃ p ∈ pieces c l, b ∈ p
  | x :: xs, b, h => by
    obtain ⟨q, qs, hq⟩ := pieces_form c xs
    by_cases hx : x = c
    · subst hx
      rw [pieces_eq]
      rcases List.mem_cons.1 h with rfl | h
      · exact .inl rfl
      · rcases pieces_mem x xs b h with h | ⟨p, hp, hb⟩
        · exact .inl h
        · exact .inr ⟨p, List.mem_cons_of_mem _ hp, hb⟩
    · rw [pieces_ne c x xs q qs hx hq]
      rcases List.mem_cons.1 h with rfl | h
      · exact .inr ⟨_, List.mem_cons_self, List.mem_cons_self⟩
      · rcases pieces_mem c xs b h with h | ⟨p, hp, hb⟩
        · exact .inl h
        · rw [hq] at hp
          rcases List.mem_cons.1 hp with rfl | hp
          · exact .inr ⟨_, List.mem_cons_self, List.mem_cons_of_mem _ hb⟩
          · exact .inr ⟨p, List.mem_cons_of_mem _ hp, hb⟩
theorem lit_low {l : List UInt8} (h : litL l = true) : lowL l = l := by
  unfold litL at h
  simp only [Bool.and_eq_true, decide_eq_true_eq, beq_iff_eq] at h
  obtain ⟨⟨⟨⟨h1, h2⟩, h3⟩, _⟩, h5⟩ := h
  cases l with
  | nil => simp at h1
  | cons x t =>
    simp only [List.head?_cons, Option.some.injEq] at h2
    subst h2
    have hne : t ≠ [] := by
      rintro rfl
      simp at h1
    have ht : t = t.dropLast ++ [93] := by
      rw [List.getLast?_cons] at h3
      have h4 := List.getLast?_eq_some_getLast hne
      rw [h4] at h3
      simp only [Option.getD_some, Option.some.injEq] at h3
      have := List.dropLast_concat_getLast hne
      rw [h3] at this
      exact this.symm
    have hin : ((91 :: t).drop 1).take ((91 :: t).length - 2) = t.dropLast := by
      simp only [List.drop_succ_cons, List.drop_zero, List.length_cons]
      rw [List.dropLast_eq_take]
      congr 1
    rw [hin] at h5
    have hb : ∀ b ∈ (91 :: t), lowB b = b := by
      intro b hb
      rcases List.mem_cons.1 hb with rfl | hb
      · rfl
      · rw [ht] at hb
        rcases List.mem_append.1 hb with hb | hb
        · rcases pieces_mem 46 _ b hb with rfl | ⟨p, hp, hbp⟩
          · rfl
          · have ho := List.all_eq_true.1 h5 p hp
            unfold octL numOk at ho
            simp only [Bool.and_eq_true] at ho
            exact low_fix (.inl (List.all_eq_true.1 ho.1.1.2 b hbp))
        · obtain rfl := List.mem_singleton.1 hb
          rfl
    unfold lowL
    conv => rhs; rw [← List.map_id (91 :: t)]
    exact List.map_congr_left fun b hm => hb b hm
theorem dom_low {d : List UInt8} (h : domL d = 0) : domL (lowL d) = 0 := by
  unfold domL at h
  by_cases hh : d.head? = some 91
  · rw [if_pos hh] at h
    cases hl : litL d with
    | true =>
      rw [lit_low hl]
      unfold domL
      rw [if_pos hh, hl]
      rfl
    | false =>
      rw [hl] at h
      cases h
  · rw [if_neg hh] at h
    have hh2 : ¬ (lowL d).head? = some 91 := by
      intro he
      apply hh
      cases d with
      | nil => cases he
      | cons x t =>
        have he' : lowB x = 91 := Option.some.inj he
        have := byte_all (fun b => !(lowB b == 91) || (b == 91)) (by decide) x
        rw [he'] at this
        simp only [beq_self_eq_true, Bool.not_true, Bool.false_or, beq_iff_eq] at this
        rw [this]
        rfl
    unfold domL
    rw [if_neg hh2, ← domGo_domP, show (lowL d).length = d.length by simp [lowL]]
    have := low_go d [] (decide (255 < d.length))
    rw [show lowL [] = [] from rfl] at this
    rw [this, domGo_domP]
    exact h
theorem norm_may {a : List UInt8 × List UInt8} (h : mayL a = true) : mayL (normL a) = true := by
  unfold mayL at h ⊢
  simp only [Bool.and_eq_true, decide_eq_true_eq] at h ⊢
  obtain ⟨⟨⟨h1, h2⟩, h3⟩, h4⟩ := h
  unfold normL
  simp only
  refine ⟨?_, dom_low h4⟩
  split
  · decide
  · exact ⟨⟨h1, h2⟩, h3⟩
theorem norm_idem (a : List UInt8 × List UInt8) : normL (normL a) = normL a := by
  unfold normL
  simp only [low_idem, Prod.mk.injEq, and_true]
  by_cases h : (lowL a.1 == pmL) = true
  · rw [if_pos h, low_pm, if_pos (by decide)]
  · rw [if_neg h, if_neg h]
theorem norm_loud {l d : List UInt8} (h : ∀ b ∈ d, asc b) : normL (l, Lib.toUpperA d) = normL (l, d) := by
  unfold normL
  simp only [low_upperL h]
theorem norm_same (l1 l2 d : List UInt8) : normL (l1, d) = normL (l2, d) ↔ (l1 = l2 ∨ (lowL l1 = pmL ∧ lowL l2 = pmL)) := by
  unfold normL
  simp only [Prod.mk.injEq, and_true]
  by_cases h1 : (lowL l1 == pmL) = true
  · have e1 : lowL l1 = pmL := by simpa using h1
    rw [if_pos h1]
    by_cases h2 : (lowL l2 == pmL) = true
    · have e2 : lowL l2 = pmL := by simpa using h2
      rw [if_pos h2]
      exact ⟨fun _ => .inr ⟨e1, e2⟩, fun _ => rfl⟩
    · rw [if_neg h2]
      refine ⟨fun e => ?_, fun e => ?_⟩
      · exfalso
        apply h2
        rw [← e, low_pm]
        decide
      · rcases e with rfl | ⟨_, e⟩
        · exact absurd h1 h2
        · exact absurd (by simpa using e) h2
  · rw [if_neg h1]
    by_cases h2 : (lowL l2 == pmL) = true
    · rw [if_pos h2]
      refine ⟨fun e => ?_, fun e => ?_⟩
      · exfalso
        apply h1
        rw [e, low_pm]
        decide
      · rcases e with rfl | ⟨e, _⟩
        · exact absurd h2 h1
        · exact absurd (by simpa using e) h1
    · rw [if_neg h2]
      refine ⟨fun e => .inl e, fun e => ?_⟩
      rcases e with rfl | ⟨e, _⟩
      · rfl
      · exact absurd (by simpa using e) h1
theorem fold_pm (y : UInt8) (h : y ∈ pmL) (x : UInt8) : Lib.foldEq x y = (lowB x == y) := by
  have : ∀ y ∈ pmL, ∀ n < 256, (Lib.foldEq (UInt8.ofNat n) y == (lowB (UInt8.ofNat n) == y)) = true := by decide +kernel
  have h2 := this y h x.toNat x.toNat_lt
  rw [UInt8.ofNat_toNat] at h2
  simpa using h2
theorem fold_low : ∀ (t : List UInt8), (∀ y ∈ t, y ∈ pmL) → ∀ l : List UInt8, Lib.equalFold l t = (lowL l == t)
  | [], _, [] => rfl
  | [], _, x :: l => by simp [Lib.equalFold, lowL]
  | y :: t, _, [] => by simp [Lib.equalFold, lowL]
  | y :: t, h, x :: l => by
    have ih := fold_low t (fun z hz => h z (List.mem_cons_of_mem _ hz)) l
    show (Lib.foldEq x y && Lib.equalFold l t) = (lowB x :: lowL l == y :: t)
    rw [ih, fold_pm y (h y List.mem_cons_self) x]
    rfl
theorem fold_post (l : List UInt8) : Lib.equalFold l pmL = (lowL l == pmL) := fold_low pmL (fun y h => h) l
end Go.Proofs.YtffngbjnbigipaaGreatDoor
