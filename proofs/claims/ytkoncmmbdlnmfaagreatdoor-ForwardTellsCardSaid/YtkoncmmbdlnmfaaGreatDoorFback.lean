/- There and back: what targets' text tells counts, and is read as these: the plain law of ForwardBack. Plain Lean. (Written in seat ZD's namespace; to be carried over by its name.) -/
import Derived.Test.YtkoncmmbdlnmfaaGreatDoorLines
namespace Go.Proofs.YtkoncmmbdlnmfaaGreatDoor
open Go.RowKit Go.Lib
set_option linter.unusedSimpArgs false
set_option linter.unusedVariables false
set_option linter.unnecessarySimpa false
set_option maxRecDepth 100000

/-- a byte that a target's text may have: printable, no blank, no comma, no quote. -/
def cleanB (b : UInt8) : Bool := decide (33 ≤ b.toNat) && decide (b.toNat ≤ 126) && b != 34 && b != 44
theorem clean_dot (b : UInt8) (h : b.toNat = 46 ∨ atomB b.toNat = true) : cleanB b = true := by
  have := byte_all (fun b => !(b.toNat == 46 || atomB b.toNat) || cleanB b) (by decide) b
  have h2 : (b.toNat == 46 || atomB b.toNat) = true := by
    rcases h with h | h
    · rw [h]; rfl
    · rw [h]; simp
  simpa [h2] using this
theorem clean_host (b : UInt8) (h : hostdotB b = true) : cleanB b = true := by
  have := byte_all (fun b => !hostdotB b || cleanB b) (by decide) b
  simpa [h] using this
theorem clean_digit (b : UInt8) (h : b = 46 ∨ digitB b = true) : cleanB b = true := by
  rcases h with rfl | h
  · decide
  · have := byte_all (fun b => !digitB b || cleanB b) (by decide) b
    simpa [h] using this
theorem clean_name (b : UInt8) (h : nameB b = true) : cleanB b = true := by
  have := byte_all (fun b => !nameB b || cleanB b) (by decide) b
  simpa [h] using this
theorem clean_local {r : List UInt8} (h : localB r = true) : ∀ b ∈ r, cleanB b = true := by
  unfold localB at h
  simp only [Bool.and_eq_true] at h
  exact fun b hb => clean_dot b (dot_mem _ _ h.2 b hb)
theorem clean_dom {d : List UInt8} (h : domL d = 0) : ∀ b ∈ d, cleanB b = true := by
  by_cases hh : d.head? = some 91
  · have hl : litL d = true := by
      unfold domL at h
      rw [if_pos hh] at h
      cases hx : litL d with
      | true => rfl
      | false => rw [hx] at h; cases h
    obtain ⟨inner, rfl, hin⟩ := lit_form hl
    intro b hb
    rcases List.mem_cons.1 hb with rfl | hb
    · decide
    · rcases List.mem_append.1 hb with hb | hb
      · exact clean_digit b (hin b hb)
      · obtain rfl := List.mem_singleton.1 hb
        decide
  · exact fun b hb => clean_host b ((dom_chars h hh).2 b hb)
theorem clean_addr {s : List UInt8} (h : (parseL s).2.2 = 0) (hq : s.head? ≠ some 34) : ∀ b ∈ s, cleanB b = true := by
  have ht := text_back h hq
  have hm := parse_may s h
  have hd : domL (parseL s).2.1 = 0 := by
    unfold mayL at hm
    simp only [Bool.and_eq_true, decide_eq_true_eq] at hm
    exact hm.2
  have hf := text_form hm
  rw [ht] at hf
  have hw : ∀ b ∈ wordT (parseL s).1, cleanB b = true := by
    unfold wordT at hf ⊢
    split
    · rename_i h1
      exact fun b hb => clean_dot b (dot_mem _ _ h1 b hb)
    · rename_i h1
      rw [if_neg h1] at hf
      exfalso
      apply hq
      rw [hf]
      simp [quoteL]
  rw [hf]
  intro b hb
  rcases List.mem_append.1 hb with hb | hb
  · exact hw b hb
  · rcases List.mem_cons.1 hb with rfl | hb
    · decide
    · exact clean_dom hd b hb
theorem clean_targ {s : List UInt8} {t : Tg} (h : targL s = some t) (hq : s.head? ≠ some 34) : s ≠ [] ∧ ∀ b ∈ s, cleanB b = true := by
  have hne : s ≠ [] := by
    rintro rfl
    have h0 : targL [] = none := by decide +kernel
    rw [h0] at h
    cases h
  refine ⟨hne, ?_⟩
  unfold targL at h
  cases hk : kindL s with
  | mk k r =>
    rw [hk] at h
    have forms : (k = 1 → r = s) ∧ (k = 2 → r = s) ∧ (k = 3 → s = 92 :: r) ∧ (k = 4 → s = 47 :: r) := by
      unfold kindL at hk
      split at hk
      · rename_i h92
        injection hk with h1 h2
        subst h1; subst h2
        exact ⟨fun e => (by cases e), fun e => (by cases e), fun _ => cutPre_some h92, fun e => (by cases e)⟩
      · split at hk
        · rename_i h47
          injection hk with h1 h2
          subst h1; subst h2
          exact ⟨fun e => (by cases e), fun e => (by cases e), fun e => (by cases e), fun _ => cutPre_some h47⟩
        · split at hk
          · injection hk with h1 h2; subst h1; exact ⟨fun e => (by cases e), fun e => (by cases e), fun e => (by cases e), fun e => (by cases e)⟩
          · split at hk
            · injection hk with h1 h2; subst h1; exact ⟨fun e => (by cases e), fun e => (by cases e), fun e => (by cases e), fun e => (by cases e)⟩
            · split at hk
              · injection hk with h1 h2; subst h1; exact ⟨fun e => (by cases e), fun e => (by cases e), fun e => (by cases e), fun e => (by cases e)⟩
              · split at hk
                · injection hk with h1 h2; subst h1; exact ⟨fun _ => h2.symm, fun e => (by cases e), fun e => (by cases e), fun e => (by cases e)⟩
                · injection hk with h1 h2; subst h1; exact ⟨fun e => (by cases e), fun _ => h2.symm, fun e => (by cases e), fun e => (by cases e)⟩
    obtain ⟨f1, f2, f3, f4⟩ := forms
    match k, r, h, f1, f2, f3, f4 with
    | 1, r, h, f1, f2, f3, f4 =>
      simp only at h
      split at h
      · rename_i h0
        exact clean_addr h0 hq
      · cases h
    | 2, r, h, f1, f2, f3, f4 =>
      simp only at h
      split at h
      · rename_i h0
        rw [← f2 rfl]
        exact clean_local h0
      · cases h
    | 3, r, h, f1, f2, f3, f4 =>
      simp only at h
      split at h
      · rename_i h0
        rw [f3 rfl]
        intro b hb
        rcases List.mem_cons.1 hb with rfl | hb
        · decide
        · exact clean_local h0 b hb
      · cases h
    | 4, r, h, f1, f2, f3, f4 =>
      simp only at h
      split at h
      · rename_i h0
        rw [f4 rfl]
        intro b hb
        rcases List.mem_cons.1 hb with rfl | hb
        · decide
        · unfold mayName at h0
          simp only [Bool.and_eq_true] at h0
          exact clean_name b (List.all_eq_true.1 h0.2 b hb)
      · cases h
    | 0, r, h, _, _, _, _ => cases h
    | k + 5, r, h, _, _, _, _ => cases h
/-! texts with commas and blanks between them -/
def joinC : List (List UInt8) → List UInt8
  | [] => []
  | [x] => x
  | x :: y :: r => x ++ 44 :: 32 :: joinC (y :: r)
theorem pieces_cut (c : UInt8) : ∀ (x r : List UInt8), (∀ b ∈ x, b ≠ c) → pieces c (x ++ c :: r) = x :: pieces c r
  | [], r, _ => pieces_eq c r
  | b :: x, r, h => by
    rw [List.cons_append]
    exact pieces_ne c b _ _ _ (h b List.mem_cons_self) (pieces_cut c x r (fun d hd => h d (List.mem_cons_of_mem _ hd)))
theorem pieces_only (c : UInt8) (x : List UInt8) (h : ∀ b ∈ x, b ≠ c) : pieces c x = [x] := pieces_one c x (fun k hk => h c (List.mem_of_getElem? hk) rfl)
theorem clean_no {b : UInt8} (h : cleanB b = true) : blkB b = false ∧ b ≠ 44 ∧ b ≠ 10 ∧ b ≠ 13 ∧ b ≠ 34 ∧ (b == 9 || plainB b.toNat) = true := by
  have := byte_all (fun b => !cleanB b || (!blkB b && b != 44 && b != 10 && b != 13 && b != 34 && (b == 9 || plainB b.toNat))) (by decide) b
  simp only [h, Bool.not_true, Bool.false_or, Bool.and_eq_true, bne_iff_ne, Bool.not_eq_true'] at this
  exact ⟨this.1.1.1.1.1, this.1.1.1.1.2, this.1.1.1.2, this.1.1.2, this.1.2, this.2⟩
/-- a text that no blank begins or ends. -/
theorem trimF_same {l : List UInt8} (h : ∀ c, l.head? = some c → blkB c = false) : trimF l = l := by
  unfold trimF
  cases l with
  | nil => rfl
  | cons c l => rw [List.dropWhile_cons, if_neg (by simp [h c rfl])]
theorem trimW_same {l : List UInt8} (h : ∀ c, l.head? = some c → blkB c = false) (h2 : ∀ c, l.getLast? = some c → blkB c = false) : trimW l = l := by
  unfold trimW
  rw [trimF_same h, trimF_same (by rw [List.head?_reverse]; exact h2), List.reverse_reverse]
theorem trimW_clean {l : List UInt8} (h : ∀ b ∈ l, cleanB b = true) : trimW l = l :=
  trimW_same (fun c hc => (clean_no (h c (List.mem_of_mem_head? hc))).1) (fun c hc => (clean_no (h c (List.mem_of_getLast? hc))).1)
theorem trimW_blank (l : List UInt8) : trimW (32 :: l) = trimW l := by
  unfold trimW trimF
  rw [List.dropWhile_cons, if_pos (by rfl)]
theorem vals_go : ∀ (ts : List (List UInt8)), ts ≠ [] → (∀ t ∈ ts, t ≠ [] ∧ ∀ b ∈ t, cleanB b = true) → (pieces 44 (joinC ts)).map trimW = ts ∧ (pieces 44 (32 :: joinC ts)).map trimW = ts
  | [], h, _ => absurd rfl h
  | [x], _, h => by
    obtain ⟨h0, hc⟩ := h x List.mem_cons_self
    have e1 := pieces_only 44 x (fun b hb => (clean_no (hc b hb)).2.1)
    have e2 := pieces_ne 44 32 x x [] (by decide) e1
    simp only [joinC]
    rw [e1, e2]
    simp only [List.map_cons, List.map_nil, trimW_blank, trimW_clean hc]
    exact ⟨trivial, trivial⟩
  | x :: y :: r, _, h => by
    obtain ⟨h0, hc⟩ := h x List.mem_cons_self
    obtain ⟨-, i2⟩ := vals_go (y :: r) (by simp) (fun t ht => h t (List.mem_cons_of_mem _ ht))
    have e1 := pieces_cut 44 x (32 :: joinC (y :: r)) (fun b hb => (clean_no (hc b hb)).2.1)
    have e2 := pieces_ne 44 32 _ x _ (by decide) e1
    simp only [joinC]
    rw [e1, e2]
    simp only [List.map_cons, trimW_blank, trimW_clean hc, i2]
    exact ⟨trivial, trivial⟩
theorem join_bytes : ∀ (ts : List (List UInt8)), (∀ t ∈ ts, ∀ b ∈ t, cleanB b = true) → ∀ b ∈ joinC ts, cleanB b = true ∨ b = 44 ∨ b = 32
  | [], _, b, hb => by cases hb
  | [x], h, b, hb => .inl (h x List.mem_cons_self b hb)
  | x :: y :: r, h, b, hb => by
    simp only [joinC] at hb
    rcases List.mem_append.1 hb with hb | hb
    · exact .inl (h x List.mem_cons_self b hb)
    · rcases List.mem_cons.1 hb with rfl | hb
      · exact .inr (.inl rfl)
      · rcases List.mem_cons.1 hb with rfl | hb
        · exact .inr (.inr rfl)
        · exact join_bytes (y :: r) (fun t ht => h t (List.mem_cons_of_mem _ ht)) b hb
theorem join_ends : ∀ (ts : List (List UInt8)), ts ≠ [] → (∀ t ∈ ts, t ≠ [] ∧ ∀ b ∈ t, cleanB b = true) → ∃ x r y, joinC ts = x :: r ∧ ts.head? = some (x :: (ts.head?.getD []).tail) ∧ (joinC ts).getLast? = some y ∧ cleanB x = true ∧ cleanB y = true
  | [], h, _ => absurd rfl h
  | [x], _, h => by
    obtain ⟨h0, hc⟩ := h x List.mem_cons_self
    cases x with
    | nil => exact absurd rfl h0
    | cons a x =>
      have hl : (a :: x).getLast? = some ((a :: x).getLast (by simp)) := List.getLast?_eq_some_getLast (by simp)
      exact ⟨a, x, _, rfl, rfl, hl, hc a List.mem_cons_self, hc _ (List.getLast_mem _)⟩
  | x :: y :: r, _, h => by
    obtain ⟨h0, hc⟩ := h x List.mem_cons_self
    obtain ⟨a, q, z, e1, e2, e3, e4, e5⟩ := join_ends (y :: r) (by simp) (fun t ht => h t (List.mem_cons_of_mem _ ht))
    cases x with
    | nil => exact absurd rfl h0
    | cons b x =>
      refine ⟨b, x ++ 44 :: 32 :: joinC (y :: r), z, rfl, rfl, ?_, hc b List.mem_cons_self, e5⟩
      simp only [joinC]
      rw [List.getLast?_append, List.getLast?_cons, List.getLast?_cons, e3]
      rfl
theorem cr_same {l : List UInt8} (h : ∀ c, l.getLast? = some c → c ≠ 13) : cutCR l = l := by
  unfold cutCR
  rw [if_neg (fun e => h 13 e rfl)]
/-- one line of targets' texts. -/
theorem lines_one {ts : List (List UInt8)} (h0 : ts ≠ []) (h : ∀ t ∈ ts, t ≠ [] ∧ ∀ b ∈ t, cleanB b = true) (h35 : ∀ c, (joinC ts).head? = some c → c ≠ 35) (hl : (joinC ts).length < 8192) : linesL (joinC ts ++ [10]) = ([(1, joinC ts)], []) := by
  obtain ⟨x, r, y, e1, -, e3, e4, e5⟩ := join_ends ts h0 h
  have hb := join_bytes ts (fun t ht => (h t ht).2)
  have hp : pieces 10 (joinC ts ++ [10]) = [joinC ts, []] := by
    rw [pieces_cut 10 (joinC ts) [] (fun b hb' => by
      rcases hb b hb' with hc | rfl | rfl
      · exact (clean_no hc).2.2.1
      · decide
      · decide)]
    rfl
  have hh : (joinC ts).head? = some x := by rw [e1]; rfl
  have ht : trimW (joinC ts) = joinC ts := trimW_same (fun c hc => by rw [hh] at hc; injection hc with hc; rw [← hc]; exact (clean_no e4).1) (fun c hc => by rw [e3] at hc; injection hc with hc; rw [← hc]; exact (clean_no e5).1)
  have hcr : cutCR (joinC ts) = joinC ts := cr_same (fun c hc => by rw [e3] at hc; injection hc with hc; rw [← hc]; exact (clean_no e5).2.2.2.1)
  have hne : joinC ts ≠ [] := by rw [e1]; simp
  have hlog : logicalL (joinC ts ++ [10]) = [(1, joinC ts, false)] := by
    unfold logicalL
    rw [hp]
    simp only [logGo]
    have s1 : logStep ([], false) 0 (joinC ts) = ([(1, joinC ts, false)], true) := by
      unfold logStep
      rw [hcr, ht, if_neg (by
        rintro (h | h)
        · exact hne h
        · exact h35 35 h rfl), if_pos rfl]
      rfl
    have s2 : logStep ([(1, joinC ts, false)], true) (0 + 1) [] = ([(1, joinC ts, false)], true) := by
      unfold logStep
      rw [if_pos (.inl (by decide))]
    rw [s1, s2]
  have hpr : printL (joinC ts) = true := by
    unfold printL
    rw [List.all_eq_true]
    intro b hb'
    rcases hb b hb' with hc | rfl | rfl
    · exact (clean_no hc).2.2.2.2.2
    · decide
    · decide
  have hq : (joinC ts).contains 34 = false := by
    rw [List.contains_eq_mem]
    simp only [decide_eq_false_iff_not]
    intro hm
    rcases hb 34 hm with hc | hc | hc
    · exact (clean_no hc).2.2.2.2.1 rfl
    · cases hc
    · cases hc
  unfold linesL
  rw [if_neg (by rw [List.length_append]; simp only [List.length_cons, List.length_nil]; omega), hlog]
  simp only [entGo]
  unfold entStep
  rw [if_neg (by simp only [hpr, hq]; simp), if_neg (by simp), if_neg (by simp)]
  rfl
theorem targs_map : ∀ (l : List Tg), (∀ t ∈ l, targL (tellL t) = some t) → targsL (l.map tellL) = some l
  | [], _ => rfl
  | t :: l, h => by
    rw [List.map_cons, targsL, h t List.mem_cons_self]
    simp only
    rw [targs_map l (fun x hx => h x (List.mem_cons_of_mem _ hx))]
/-- a target that may be told. -/
def OkT (t : Tg) : Prop := targL (tellL t) = some t ∧ (tellL t).head? ≠ some 35 ∧ ∀ b ∈ tellL t, b ≠ 34
theorem okT_clean {t : Tg} (h : OkT t) : tellL t ≠ [] ∧ ∀ b ∈ tellL t, cleanB b = true :=
  clean_targ h.1 (fun e => h.2.2 34 (by
    cases ht : tellL t with
    | nil => rw [ht] at e; simp at e
    | cons a r => rw [ht] at e; simp at e; subst e; exact List.mem_cons_self) rfl)
/-- THE PLAIN LAW OF ForwardBack. -/
theorem back_law (user : List UInt8) {own : List Tg} (h0 : own ≠ []) (h : ∀ t ∈ own, OkT t) (hl : own.length ≤ 16) (hlen : (joinC (own.map tellL)).length < 8192) : fwdL user (joinC (own.map tellL) ++ [10]) = addAll user [] own := by
  have hne : own.map tellL ≠ [] := by simpa using h0
  have hc : ∀ x ∈ own.map tellL, x ≠ [] ∧ ∀ b ∈ x, cleanB b = true := by
    intro x hx
    obtain ⟨t, ht, rfl⟩ := List.mem_map.1 hx
    exact okT_clean (h t ht)
  have h35 : ∀ c, (joinC (own.map tellL)).head? = some c → c ≠ 35 := by
    intro c hc'
    obtain ⟨x, r, y, e1, e2, -, -, -⟩ := join_ends (own.map tellL) hne hc
    cases own with
    | nil => exact absurd rfl h0
    | cons t l =>
      have ht := (h t List.mem_cons_self).2.1
      rw [e1] at hc'
      simp only [List.head?_cons, Option.some.injEq] at hc'
      simp only [List.map_cons, List.head?_cons, Option.some.injEq, Option.getD_some] at e2
      rw [e2] at ht
      simp only [List.head?_cons, Option.some.injEq] at ht
      rw [← hc']
      simpa using ht
  have hL := lines_one hne hc h35 hlen
  obtain ⟨v1, -⟩ := vals_go (own.map tellL) hne hc
  have hpl : (pieces 44 (joinC (own.map tellL))).length = own.length := by
    have := congrArg List.length v1
    simpa using this
  have hv : valsL (joinC (own.map tellL)) = some (own.map tellL) := by
    unfold valsL
    rw [v1, if_pos (by
      rw [List.all_eq_true]
      intro x hx
      have := (hc x hx).1
      cases x with
      | nil => exact absurd rfl this
      | cons a x => rfl), if_neg (by omega)]
  have hs : saidL (joinC (own.map tellL)) = some own := by
    unfold saidL
    rw [hv]
    exact targs_map own (fun t ht => (h t ht).1)
  unfold fwdL
  rw [hL]
  simp only [List.any_nil, Bool.false_eq_true, if_false, List.map_cons, List.map_nil, fwdGo, hs]
  rw [if_neg (by omega)]
end Go.Proofs.YtkoncmmbdlnmfaaGreatDoor
