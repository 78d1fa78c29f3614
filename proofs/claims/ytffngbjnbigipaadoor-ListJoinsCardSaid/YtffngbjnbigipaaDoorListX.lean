/- A list of addresses with more text behind it: white space with comments, or a comma: the same members stand ahead. -/
import Derived.Test.YtffngbjnbigipaaDoorListS
namespace Go.Proofs.YtffngbjnbigipaaDoor
open Go.RowKit Go.Lib
set_option linter.unusedSimpArgs false
set_option linter.unusedVariables false

/-! comments, quoted words and white space that end ahead of what is behind -/
theorem com_app (r : List UInt8) : ∀ (l : List UInt8) (deep k : Nat), (comGo l deep k).2 = 0 → comGo (l ++ r) deep k = comGo l deep k
  | [], _, _, h => by simp [comGo] at h
  | [c], deep, k, h => by
    rw [com_step] at h
    rw [List.singleton_append, com_step, com_step c []]
    split at h
    · split at h <;> simp [comGo] at h
    · rename_i h1
      rw [if_neg h1, if_neg h1]
      split at h
      · rename_i h2
        rw [if_pos h2, if_pos h2]
        split at h
        · rename_i h3
          rw [if_pos h3, if_pos h3]
        · simp [comGo] at h
      · rename_i h2
        split at h
        · simp at h
        · split at h <;> simp [comGo] at h
  | c :: d :: l, deep, k, h => by
    rw [com_step] at h
    rw [List.cons_append, com_step, com_step c (d :: l)]
    split at h
    · rename_i h1
      rw [if_pos h1, if_pos h1]
      split at h
      · simp at h
      · rename_i h2
        rw [if_neg h2, if_neg h2]
        exact com_app r (d :: l) _ _ h
    · rename_i h1
      rw [if_neg h1, if_neg h1]
      split at h
      · rename_i h2
        rw [if_pos h2, if_pos h2]
        split at h
        · rename_i h3
          rw [if_pos h3, if_pos h3]
        · rename_i h3
          rw [if_neg h3, if_neg h3]
          exact com_app r (d :: l) _ _ h
      · rename_i h2
        rw [if_neg h2, if_neg h2]
        split at h
        · rename_i h3
          rw [if_pos h3, if_pos h3]
          simp only [List.cons_append] at h ⊢
          split at h
          · rename_i h4
            rw [if_pos h4, if_pos h4]
            exact com_app r l _ _ h
          · simp at h
        · rename_i h3
          rw [if_neg h3, if_neg h3]
          split at h
          · rename_i h4
            rw [if_pos h4, if_pos h4]
            exact com_app r (d :: l) _ _ h
          · simp at h
theorem commentL_app (l r : List UInt8) (h : (commentL l).2 = 0) : commentL (l ++ r) = commentL l := by
  cases l with
  | nil => simp [commentL] at h
  | cons c l =>
    unfold commentL at h ⊢
    by_cases h1 : (c :: l).head? = some 40
    · have h2 : (c :: l ++ r).head? = some 40 := h1
      rw [if_pos h1] at h
      rw [if_pos h1, if_pos h2]
      exact com_app r (c :: l) 0 0 h
    · rw [if_neg h1] at h
      simp at h
theorem quot_app (r : List UInt8) : ∀ (l out : List UInt8) (k : Nat), (quotGo l out k).2.2 = 0 → quotGo (l ++ r) out k = quotGo l out k
  | [], _, _, h => by simp [quotGo] at h
  | [c], out, k, h => by
    rw [quotGo] at h
    split at h
    · rename_i h1
      rw [List.singleton_append]
      cases r with
      | nil => rfl
      | cons d r => rw [quotGo, quotGo, if_pos h1, if_pos h1]
    · split at h
      · simp at h
      · split at h <;> simp at h
  | c :: d :: l, out, k, h => by
    rw [quotGo] at h
    rw [List.cons_append, List.cons_append, quotGo, quotGo]
    split at h
    · rename_i h1
      rw [if_pos h1, if_pos h1]
    · rename_i h1
      rw [if_neg h1, if_neg h1]
      split at h
      · rename_i h2
        rw [if_pos h2, if_pos h2]
        split at h
        · rename_i h3
          rw [if_pos h3, if_pos h3]
          exact quot_app r l _ _ h
        · simp at h
      · rename_i h2
        rw [if_neg h2, if_neg h2]
        split at h
        · rename_i h3
          rw [if_pos h3, if_pos h3]
          exact quot_app r (d :: l) _ _ h
        · simp at h
theorem quoted_app (l r : List UInt8) (h : (quoted l).2.2 = 0) : quoted (l ++ r) = quoted l := by
  cases l with
  | nil => simp [quoted] at h
  | cons c l =>
    unfold quoted at h ⊢
    simp only [List.cons_append] at h ⊢
    split at h
    · rename_i h1
      rw [if_pos h1, if_pos h1]
      exact quot_app r l [] 1 h
    · simp at h
/-- what stands behind: white space with comments of d bytes, behind it nothing or a comma. -/
structure Behind (r : List UInt8) (d : Nat) : Prop where
  le : d ≤ r.length
  bl : ∀ f k, r.length ≤ f → blGo f r k = (k + d, 0)
  bl2 : ∀ f k, (r.drop d).length ≤ f → blGo f (r.drop d) k = (k, 0)
  host : ∀ c, r.head? = some c → hostdotB c = false
  word : ∀ c, r.head? = some c → wordB c = false
  stop : ∀ c, r[d]? = some c → c = 44
theorem bl_app (r : List UInt8) (d : Nat) (H : Behind r d) : ∀ (f : Nat) (l : List UInt8) (k f' : Nat), l.length ≤ f → (l ++ r).length ≤ f' → (blGo f l k).2 = 0 →
    blGo f' (l ++ r) k = if (blGo f l k).1 = k + l.length then (k + l.length + d, 0) else blGo f l k
  | f, [], k, f', _, h, _ => by
    have e : blGo f [] k = (k, 0) := by cases f <;> rfl
    rw [e, if_pos (by simp), List.nil_append, H.bl f' k (by simpa using h)]
    simp
  | 0, _ :: _, _, _, h, _, _ => by simp at h
  | f + 1, c :: l, k, f', hf, hf', h => by
    obtain ⟨f', rfl⟩ : ∃ g, f' = g + 1 := ⟨f' - 1, by simp at hf'; omega⟩
    rw [blGo] at h
    rw [List.cons_append, blGo, blGo]
    have e1 : k + (c :: l).length = k + 1 + l.length := by simp; omega
    rw [e1]
    split at h
    · rename_i h1
      rw [if_pos h1, if_pos h1]
      exact bl_app r d H f l (k + 1) f' (by simpa using hf) (by simpa using hf') h
    · rename_i h1
      rw [if_neg h1, if_neg h1]
      split at h
      · rename_i h2
        rw [if_pos h2, if_pos h2]
        split at h
        · rename_i h3
          have hc := comment_many (c :: l)
          have h4 := hc.1 h3
          have ea := commentL_app (c :: l) r h3
          rw [List.cons_append] at ea
          rw [ea, if_pos h3, if_pos h3]
          have ed : (c :: (l ++ r)).drop (commentL (c :: l)).1 = (c :: l).drop (commentL (c :: l)).1 ++ r := by
            rw [← List.cons_append, List.drop_append_of_le_length hc.2]
          rw [ed]
          have := bl_app r d H f ((c :: l).drop (commentL (c :: l)).1) (k + (commentL (c :: l)).1) f' (by simp at hf ⊢; omega) (by simp at hf' ⊢; omega) h
          rw [this]
          have e2 : k + (commentL (c :: l)).1 + ((c :: l).drop (commentL (c :: l)).1).length = k + 1 + l.length := by
            have := hc.2
            simp only [List.length_drop, List.length_cons] at this ⊢
            omega
          rw [e2]
        · rename_i h3
          exact absurd h h3
      · rename_i h2
        rw [if_neg h2, if_neg h2, if_neg (by simp; omega)]
def ph (n d k : Nat) : Nat := if k = n then n + d else k
theorem ph_lt {n d k : Nat} (h : k < n) : ph n d k = k := by unfold ph; rw [if_neg (by omega)]
theorem ph_eq (n d : Nat) : ph n d n = n + d := by unfold ph; rw [if_pos rfl]
section
variable (l r : List UInt8) (d : Nat) (H : Behind r d)
include H
theorem blankE_end : blankE (l ++ r) (l.length + d) = some (l.length + d) := by
  unfold blankE blankL
  rw [drop_sh, H.bl2 _ _ (Nat.le_refl _)]
  rfl
theorem blankE_ext {k m : Nat} (hk : k ≤ l.length) (h : blankE l k = some m) : blankE (l ++ r) k = some (ph l.length d m) := by
  unfold blankE blankL at h ⊢
  rw [List.drop_append_of_le_length hk]
  split at h
  · rename_i h0
    injection h with h
    have := bl_app r d H _ (l.drop k) 0 _ (Nat.le_refl _) (Nat.le_refl _) h0
    rw [this]
    have hm := blank_many (l.drop k)
    unfold blankL at hm
    have hl : (l.drop k).length = l.length - k := List.length_drop
    by_cases he : (blGo (l.drop k).length (l.drop k) 0).1 = 0 + (l.drop k).length
    · rw [if_pos he]
      simp only [if_true]
      have hml : m = l.length := by omega
      subst hml
      rw [ph_eq]
      congr 1
      omega
    · rw [if_neg he, if_pos h0, h]
      rw [ph_lt (by omega)]
  · cases h
theorem blankE_ext' {k m x : Nat} (hk : k ≤ l.length) (hx : x = k ∨ x = ph l.length d k) (h : blankE l k = some m) : blankE (l ++ r) x = some (ph l.length d m) := by
  rcases hx with rfl | rfl
  · exact blankE_ext l r d H hk h
  · rcases Nat.lt_or_eq_of_le hk with h1 | rfl
    · rw [ph_lt h1]; exact blankE_ext l r d H hk h
    · have hm := blankE_le (Nat.le_refl _) h
      have : m = l.length := by omega
      subst this
      rw [ph_eq]
      exact blankE_end l r d H
end
theorem get_app (l r : List UInt8) {k : Nat} (h : k < l.length) : (l ++ r)[k]? = l[k]? := List.getElem?_append_left h
theorem tw_app (p : UInt8 → Bool) (r : List UInt8) (hr : ∀ c, r.head? = some c → p c = false) : ∀ l : List UInt8, tw p (l ++ r) = tw p l
  | [] => by
    cases r with
    | nil => rfl
    | cons c r => rw [List.nil_append, tw_no p c r (hr c rfl)]; rfl
  | c :: l => by
    rw [List.cons_append]
    cases h : p c with
    | true => rw [tw_yes p c _ h, tw_yes p c _ h, tw_app p r hr l]
    | false => rw [tw_no p c _ h, tw_no p c _ h]
theorem tw_app_lt (p : UInt8 → Bool) (r : List UInt8) : ∀ l : List UInt8, tw p l < l.length → tw p (l ++ r) = tw p l
  | [], h => by simp [tw] at h
  | c :: l, h => by
    rw [List.cons_append]
    cases hc : p c with
    | true =>
      rw [tw_yes p c _ hc] at h
      rw [tw_yes p c _ hc, tw_yes p c _ hc, tw_app_lt p r l (by simpa using h)]
    | false => rw [tw_no p c _ hc, tw_no p c _ hc]
theorem slc_app (l r : List UInt8) (a b : Nat) (h : b ≤ l.length) : slc (l ++ r) a b = slc l a b := by
  unfold slc
  rw [List.take_append_of_le_length h]
section
variable (l r : List UInt8) (d : Nat) (H : Behind r d)
include H
theorem domE_ext {k n : Nat} (hk : k ≤ l.length) (h : domE l k = some n) : domE (l ++ r) k = some n := by
  have hn := domE_le hk h
  have hlt : k < l.length := by omega
  unfold domE at h ⊢
  rw [get_app l r hlt, List.drop_append_of_le_length hk, List.length_append]
  split at h
  · rename_i h1
    split at h
    · rename_i h2
      have e : tw notEnd (l.drop k ++ r) = tw notEnd (l.drop k) := tw_app_lt _ _ _ (by rw [List.length_drop]; omega)
      rw [if_pos h1, e, if_pos (by omega)]
      exact h
    · cases h
  · rename_i h1
    have e : tw hostdotB (l.drop k ++ r) = tw hostdotB (l.drop k) := tw_app _ _ H.host _
    rw [if_neg h1, e]
    exact h
theorem wordE_ext {k n : Nat} (hk : k < l.length) (h : wordE l k = some n) : wordE (l ++ r) k = some n := by
  unfold wordE at h ⊢
  rw [get_app l r hk, List.drop_append_of_le_length (by omega)]
  split at h
  · rename_i h1
    rw [if_pos h1]
    split at h
    · rename_i h2
      rw [quoted_app _ r h2, if_pos h2]
      exact h
    · cases h
  · rename_i h1
    rw [if_neg h1, tw_app _ _ H.word]
    exact h
theorem get_end {c : UInt8} (h : (l ++ r)[l.length + d]? = some c) : c = 44 := by
  rw [get_sh] at h
  exact H.stop c h
theorem wordE_end : wordE (l ++ r) (l.length + d) = some (l.length + d) := by
  unfold wordE
  rw [if_neg (fun h => absurd (get_end l r d H h) (by decide)), drop_sh]
  cases hd : r.drop d with
  | nil => rw [tw_nil]; rfl
  | cons c t =>
    have : r[d]? = some c := by
      have := congrArg (fun x : List UInt8 => x[0]?) hd
      simpa using this
    rw [tw_no _ _ _ (by rw [H.stop c this]; decide)]; rfl
theorem addrE_ext {a b n : Nat} {st st' : LSt} (h : addrE l a b st = some (n, st')) : addrE (l ++ r) a b st = some (n, st') := by
  have hb := addrE_le h
  unfold addrE at h ⊢
  rw [get_app l r (by omega)]
  split at h
  · cases h
  · rename_i h1
    rw [if_neg h1]
    split at h
    · cases h
    · rename_i h2
      rw [if_neg h2]
      split at h
      · cases h
      · rename_i t ht
        have ht2 := domE_le (by omega) ht
        rw [domE_ext l r d H (by omega) ht]
        simp only
        rw [slc_app l r a t ht2.2]
        exact h
theorem routeE_ext : ∀ (f k n : Nat) (g g' : Bool), routeE f l k g = some (n, g') → ∀ f', f ≤ f' → routeE f' (l ++ r) k g = some (n, g')
  | 0, _, _, _, _, h, _, _ => by cases h
  | f + 1, k, n, g, g', h, f', hf => by
    obtain ⟨f', rfl⟩ : ∃ m, f' = m + 1 := ⟨f' - 1, by omega⟩
    rw [routeE] at h ⊢
    split at h
    · cases h
    · rename_i h2
      have hk : k < l.length := at_lt (Classical.not_not.1 h2)
      rw [get_app l r hk, if_neg h2]
      split at h
      · cases h
      · rename_i t ht
        have ht2 := domE_le (by omega) ht
        rw [domE_ext l r d H (by omega) ht]
        simp only
        rw [slc_app l r k t ht2.2]
        split at h
        · cases h
        · rename_i h3
          rw [if_neg h3]
          split at h
          · rename_i h4
            rw [get_app l r (at_lt h4), if_pos h4]
            exact h
          · rename_i h4
            split at h
            · rename_i h5
              rw [get_app l r (at_lt h5), if_neg h4, if_pos h5]
              exact routeE_ext f _ _ _ _ h f' (by omega)
            · cases h
theorem rouE_ext {k n : Nat} {g g' : Bool} (hk : k ≤ l.length) (h : rouE l k g = some (n, g')) : ∃ n', rouE (l ++ r) (ph l.length d k) g = some (n', g') ∧ (n' = n ∨ n' = ph l.length d n) := by
  unfold rouE at h ⊢
  split at h
  · rename_i h1
    have hlt := at_lt h1
    refine ⟨n, ?_, Or.inl rfl⟩
    rw [ph_lt hlt, get_app l r hlt, if_pos h1]
    exact routeE_ext l r d H _ _ _ _ _ h _ (by simp)
  · rename_i h1
    injection h with h
    injection h with h h'
    subst h; subst h'
    refine ⟨ph l.length d k, ?_, Or.inr rfl⟩
    rcases Nat.lt_or_eq_of_le hk with h2 | rfl
    · rw [ph_lt h2, get_app l r h2, if_neg h1]
    · rw [ph_eq, if_neg (fun h => absurd (get_end l r d H h) (by decide))]
theorem closE_ext {k n x : Nat} {st st' : LSt} (hk : k ≤ l.length) (hx : x = k ∨ x = ph l.length d k) (h : closE l k st = some (n, st')) : closE (l ++ r) x st = some (n, st') := by
  unfold closE at h ⊢
  split at h
  · cases h
  · rename_i k' hb
    rw [blankE_ext' l r d H hk hx hb]
    simp only
    split at h
    · rename_i h1
      rw [ph_lt (at_lt h1), get_app l r (at_lt h1), if_pos h1]
      exact h
    · cases h
theorem angE2_ext {k n x : Nat} {st st' : LSt} (hk : k ≤ l.length) (hx : x = k ∨ x = ph l.length d k) (h : angE2 l k st = some (n, st')) : angE2 (l ++ r) x st = some (n, st') := by
  unfold angE2 at h ⊢
  split at h
  · cases h
  · rename_i k3 hb
    rw [blankE_ext' l r d H hk hx hb]
    have h3 := blankE_le hk hb
    split at h
    · cases h
    · rename_i e he
      have h4 := wordE_le h3.2 he
      split at h
      · cases h
      · rename_i k4 st4 ha
        have h5 := addrE_le ha
        have hlt : k3 < l.length := by omega
        rw [ph_lt hlt, wordE_ext l r d H hlt he]
        dsimp only
        rw [addrE_ext l r d H ha]
        exact closE_ext l r d H h5.2.2 (Or.inl rfl) h
theorem angleE_ext {k n : Nat} {st st' : LSt} (hk : k ≤ l.length) (h : angleE l k st = some (n, st')) : angleE (l ++ r) k st = some (n, st') := by
  unfold angleE at h ⊢
  split at h
  · cases h
  · rename_i k1 hb
    rw [blankE_ext l r d H hk hb]
    have h1 := blankE_le hk hb
    split at h
    · cases h
    · rename_i k2 g hr
      have h2 := rouE_le h1.2 hr
      obtain ⟨n', e1, e2⟩ := rouE_ext l r d H h1.2 hr
      simp only
      rw [e1]
      exact angE2_ext l r d H h2.2 e2 h
theorem wordsE_ext : ∀ (f i m e i' m' e' : Nat), i ≤ l.length → wordsE f l i m e = some (i', m', e') → ∀ f' e2, f ≤ f' → (m = 0 ∨ e2 = e) → ∃ e2', wordsE f' (l ++ r) (ph l.length d i) m e2 = some (ph l.length d i', m', e2') ∧ (m' = 0 ∨ e2' = e')
  | 0, _, _, _, _, _, _, _, h, _, _, _, _ => by cases h
  | f + 1, i, m, e, i', m', e', hi, h, f', e2, hf, he => by
    obtain ⟨f', rfl⟩ : ∃ q, f' = q + 1 := ⟨f' - 1, by omega⟩
    rw [wordsE] at h
    split at h
    · cases h
    · rename_i k hw
      have h1 := wordE_le hi hw
      rcases Nat.lt_or_eq_of_le hi with hlt | rfl
      · split at h
        · rename_i hki
          injection h with h
          injection h with h h'
          injection h' with h' h''
          subst h; subst h'; subst h''
          refine ⟨e2, ?_, he⟩
          rw [ph_lt hlt, wordsE, wordE_ext l r d H hlt hw]
          simp only
          rw [if_pos hki]
        · rename_i hki
          split at h
          · cases h
          · rename_i j hb
            have h2 := blankE_le h1.2 hb
            obtain ⟨e2', e3, e4⟩ := wordsE_ext f j (m + 1) k i' m' e' h2.2 h f' k (by omega) (Or.inr rfl)
            refine ⟨e2', ?_, e4⟩
            rw [ph_lt hlt, wordsE, wordE_ext l r d H hlt hw]
            simp only
            rw [if_neg hki, blankE_ext l r d H h1.2 hb]
            exact e3
      · have : k = l.length := by omega
        subst this
        rw [if_pos rfl] at h
        injection h with h
        injection h with h h'
        injection h' with h' h''
        subst h; subst h'; subst h''
        refine ⟨e2, ?_, he⟩
        rw [ph_eq, wordsE, wordE_end l r d H]
        simp
def InnerEx (i1 i2 : Nat → LSt → Option (Nat × LSt)) : Prop := ∀ k st n st', k < l.length → i2 (k + 1) st = some (n, st') → i1 (k + 1) st = some (n, st')
theorem afterE_ext {i1 i2 : Nat → LSt → Option (Nat × LSt)} (hI : ∀ k st n st', k ≤ l.length → i2 k st = some (n, st') → i1 k st = some (n, st')) (within : Bool) {fr i m e e2 n : Nat} {st st' : LSt} (hf : fr ≤ i) (hi : i ≤ l.length) (he : m = 0 ∨ e2 = e)
    (h : afterE i2 within l fr i m e st = some (n, st')) : ∃ n', afterE i1 within (l ++ r) (ph l.length d fr) (ph l.length d i) m e2 st = some (n', st') ∧ (n' = n ∨ n' = ph l.length d n) := by
  rcases Nat.lt_or_eq_of_le hi with hlt | rfl
  · rw [ph_lt hlt, ph_lt (show fr < l.length by omega)]
    unfold afterE at h ⊢
    rw [get_app l r hlt]
    split at h
    · rename_i h1
      rw [if_pos h1]
      split at h
      · rename_i h2
        rw [if_pos ⟨h2.1, by rcases he with he | he <;> omega⟩]
        exact ⟨n, addrE_ext l r d H h, Or.inl rfl⟩
      · cases h
    · rename_i h1
      rw [if_neg h1]
      split at h
      · rename_i h2
        rw [if_pos h2]
        exact ⟨n, angleE_ext l r d H (by omega) h, Or.inl rfl⟩
      · rename_i h2
        rw [if_neg h2]
        split at h
        · rename_i h3
          rw [if_pos h3]
          exact ⟨n, hI _ _ _ _ (by omega) h, Or.inl rfl⟩
        · rename_i h3
          rw [if_neg h3]
          split at h
          · cases h
          · rename_i h4
            rw [if_neg h4]
            injection h with h
            injection h with h h'
            subst h; subst h'
            exact ⟨i, rfl, Or.inl rfl⟩
  · have hn : l[l.length]? = none := List.getElem?_eq_none (Nat.le_refl _)
    unfold afterE at h ⊢
    rw [hn] at h
    rw [ph_eq]
    have g : ∀ c : UInt8, c ≠ 44 → ¬ (l ++ r)[l.length + d]? = some c := fun c hc hh => hc (get_end l r d H hh)
    rw [if_neg (g 64 (by decide)), if_neg (g 60 (by decide)), if_neg (fun hh => g 58 (by decide) hh.1)]
    rw [if_neg (by simp), if_neg (by simp), if_neg (by simp)] at h
    split at h
    · cases h
    · rename_i h4
      rw [if_neg h4]
      injection h with h
      injection h with h h'
      subst h; subst h'
      exact ⟨_, rfl, Or.inr (ph_eq _ _).symm⟩
theorem memE_ext {i1 i2 : Nat → LSt → Option (Nat × LSt)} (hI : ∀ k st n st', k ≤ l.length → i2 k st = some (n, st') → i1 k st = some (n, st')) (hL : InnerLe l i2) (within : Bool) {k n x : Nat} {st st' : LSt} (hk : k ≤ l.length) (hx : x = k ∨ x = ph l.length d k)
    (h : memE i2 within l k st = some (n, st')) : memE i1 within (l ++ r) x st = some (ph l.length d n, st') := by
  unfold memE at h ⊢
  split at h
  · cases h
  · rename_i fr hb
    have h1 := blankE_le hk hb
    rw [blankE_ext' l r d H hk hx hb]
    split at h
    · cases h
    · rename_i i m e hw
      have h2 := wordsE_le _ h1.2 (Nat.le_refl _) hw
      obtain ⟨e2', e3, e4⟩ := wordsE_ext l r d H _ _ _ _ _ _ _ h1.2 hw ((l ++ r).length + 1) (ph l.length d fr) (by simp) (Or.inl rfl)
      simp only
      rw [e3]
      simp only
      unfold lastE at h
      split at h
      · cases h
      · rename_i k2 st2 ha
        have h3 := afterE_le hL h2.2.1 ha
        obtain ⟨n', e5, e6⟩ := afterE_ext l r d H hI within h2.1 h2.2.1 e4 ha
        rw [e5]
        split at h
        · cases h
        · rename_i k3 hb3
          injection h with h
          injection h with h h'
          subst h; subst h'
          simp only [lastE]
          rw [blankE_ext' l r d H h3.2 e6 hb3]
omit H in
theorem memsE_ext {m1 m2 : Nat → LSt → Option (Nat × LSt)} (hL : InnerLe l m2) (hM : ∀ k st n st' x, k ≤ l.length → (x = k ∨ x = ph l.length d k) → m2 k st = some (n, st') → m1 x st = some (ph l.length d n, st')) :
    ∀ (f k n : Nat) (st st' : LSt) (x f' : Nat), k ≤ l.length → (x = k ∨ x = ph l.length d k) → f ≤ f' → memsE m2 l f k st = some (n, st') →
    (n < l.length → memsE m1 (l ++ r) f' x st = some (n, st')) ∧
    (n = l.length → ∃ f0, f' ≤ f0 + f ∧ memsE m1 (l ++ r) f' x st = if r[d]? = some 44 then memsE m1 (l ++ r) f0 (l.length + d + 1) st' else some (l.length + d, st'))
  | 0, _, _, _, _, _, _, _, _, _, h => by cases h
  | f + 1, k, n, st, st', x, f', hk, hx, hf, h => by
    obtain ⟨f', rfl⟩ : ∃ q, f' = q + 1 := ⟨f' - 1, by omega⟩
    rw [memsE] at h
    split at h
    · cases h
    · rename_i k2 st2 hm
      have h1 := hL _ _ _ _ hk hm
      have hm2 := hM _ _ _ _ x hk hx hm
      split at h
      · rename_i h3
        have hlt := at_lt h3
        have ih := memsE_ext hL hM f (k2 + 1) n st2 st' (k2 + 1) f' (by omega) (Or.inl rfl) (by omega) h
        rw [memsE, hm2]
        simp only
        rw [ph_lt hlt, get_app l r hlt, if_pos h3]
        refine ⟨ih.1, fun hn => ?_⟩
        obtain ⟨f0, e1, e2⟩ := ih.2 hn
        exact ⟨f0, by omega, e2⟩
      · rename_i h3
        injection h with h
        injection h with h h'
        subst h; subst h'
        refine ⟨fun hlt => ?_, fun hn => ?_⟩
        · rw [memsE, hm2]
          simp only
          rw [ph_lt hlt, get_app l r hlt, if_neg h3]
        · subst hn
          refine ⟨f', by omega, ?_⟩
          rw [memsE, hm2]
          simp only
          rw [ph_eq, get_sh]
theorem memT_ext {k n x : Nat} {st st' : LSt} (hk : k ≤ l.length) (hx : x = k ∨ x = ph l.length d k) (h : memT l k st = some (n, st')) : memT (l ++ r) x st = some (ph l.length d n, st') :=
  memE_ext l r d H (fun _ _ _ _ _ h => by cases h) (none_le l) true hk hx h
theorem innerE_ext {k n : Nat} {st st' : LSt} (hk : k ≤ l.length) (h : innerE l k st = some (n, st')) : innerE (l ++ r) k st = some (n, st') := by
  unfold innerE at h ⊢
  split at h
  · cases h
  · rename_i k2 st2 hm
    split at h
    · rename_i h3
      have hlt := at_lt h3
      have := (memsE_ext l r d (memT_le l) (fun k st n st' x hk hx h => memT_ext l r d H hk hx h) _ k k2 st st2 k ((l ++ r).length + 1) hk (Or.inl rfl) (by simp) hm).1 hlt
      unfold memsT
      rw [this]
      simp only
      rw [get_app l r hlt, if_pos h3]
      exact h
    · cases h
theorem memF_ext {k n x : Nat} {st st' : LSt} (hk : k ≤ l.length) (hx : x = k ∨ x = ph l.length d k) (h : memF l k st = some (n, st')) : memF (l ++ r) x st = some (ph l.length d n, st') :=
  memE_ext l r d H (fun k st n st' hk h => innerE_ext l r d H hk h) (innerE_le l) false hk hx h
/-- a whole list ahead of what is behind. -/
theorem memsF_ext {st st' : LSt} (h : memsF l 0 st = some (l.length, st')) :
    ∃ f0, r.length ≤ f0 ∧ memsF (l ++ r) 0 st = if r[d]? = some 44 then memsE (memF (l ++ r)) (l ++ r) f0 (l.length + d + 1) st' else some (l.length + d, st') := by
  obtain ⟨f0, e1, e2⟩ := (memsE_ext l r d (memF_le l) (fun k st n st' x hk hx h => memF_ext l r d H hk hx h) _ 0 l.length st st' 0 ((l ++ r).length + 1) (by omega) (Or.inl rfl) (by simp) h).2 rfl
  refine ⟨f0, ?_, e2⟩
  simp at e1
  omega
end
end Go.Proofs.YtffngbjnbigipaaDoor
