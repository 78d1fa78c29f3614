/- Plain law on what the readers map ahead of reading; no program in sight. -/
import Derived.Test.YthnohioamefbmaaDoorPureC
namespace Go.Proofs.YthnohioamefbmaaDoor
open Go.RowKit Go.Lib
set_option linter.unusedSimpArgs false
set_option linter.unusedVariables false

theorem dropWhile_spec (l : List UInt8) : ∃ r, l = List.replicate r 61 ++ l.dropWhile (· == 61) ∧ (∀ c, (l.dropWhile (· == 61))[0]? = some c → c ≠ 61) := by
  induction l with
  | nil => exact ⟨0, rfl, by simp⟩
  | cons b l ih =>
    obtain ⟨r, h1, h2⟩ := ih
    by_cases hb : b = 61
    · subst hb
      refine ⟨r + 1, ?_, by simpa using h2⟩
      simp only [List.dropWhile_cons, beq_self_eq_true, if_true]
      rw [List.replicate_succ, List.cons_append, ← h1]
    · refine ⟨0, ?_, ?_⟩
      · simp [List.dropWhile_cons, hb]
      · simp [List.dropWhile_cons, hb]
/-- a text is what stands ahead of its last signs =, and these. -/
theorem trim_spec (s : List UInt8) : ∃ r, s = trimRightB s 61 ++ List.replicate r 61 ∧ (∀ h : 0 < (trimRightB s 61).length, (trimRightB s 61).getD ((trimRightB s 61).length - 1) 0 ≠ 61) := by
  obtain ⟨r, h1, h2⟩ := dropWhile_spec s.reverse
  refine ⟨r, ?_, ?_⟩
  · have := congrArg List.reverse h1
    rw [List.reverse_reverse, List.reverse_append, List.reverse_replicate] at this
    exact this
  · intro h
    unfold trimRightB at h ⊢
    generalize s.reverse.dropWhile (· == 61) = d at *
    rw [List.length_reverse] at h ⊢
    have hd : d[0]? = some d[0] := List.getElem?_eq_getElem h
    have := h2 _ hd
    rw [List.getD_eq_getElem?_getD, List.getElem?_reverse (by omega), show d.length - 1 - (d.length - 1) = 0 from by omega, hd]
    exact this
theorem getD_app_right (X : List UInt8) (r k : Nat) (h1 : X.length ≤ k) (h2 : k < X.length + r) : (X ++ List.replicate r 61).getD k 0 = (61 : UInt8) := by
  rw [List.getD_eq_getElem?_getD, List.getElem?_append_right h1, List.getElem?_replicate, if_pos (by omega)]; rfl
theorem strip_app (X : List UInt8) (r k : Nat) (hk : k ≤ r) (hX : ∀ h : 0 < X.length, X.getD (X.length - 1) 0 ≠ 61) : strip1 (X ++ List.replicate r 61) (X.length + k) = X.length + (k - 1) := by
  unfold strip1
  by_cases h0 : k = 0
  · subst h0
    rw [if_neg]
    rintro ⟨h1, h2⟩
    have hx : 0 < X.length := by omega
    rw [List.getD_eq_getElem?_getD, List.getElem?_append_left (by omega)] at h2
    exact hX hx (by rw [List.getD_eq_getElem?_getD]; exact h2)
  · rw [if_pos ⟨by omega, getD_app_right X r _ (by omega) (by omega)⟩]; omega
theorem noeq_split : ∀ (A B : List UInt8) (p r : Nat), (61 : UInt8) ∉ A → (61 : UInt8) ∉ B → A ++ List.replicate p 61 = B ++ List.replicate r 61 → A = B ∧ p = r
  | [], [], p, r, _, _, h => ⟨rfl, by have := congrArg List.length h; simpa using this⟩
  | [], b :: B, p, r, _, hB, h => by
    cases p with
    | zero => simp at h
    | succ p =>
      rw [List.nil_append, List.replicate_succ, List.cons_append] at h
      have := (List.cons.inj h).1
      exact absurd (by rw [this]; simp) hB
  | a :: A, [], p, r, hA, _, h => by
    cases r with
    | zero => simp at h
    | succ r =>
      rw [List.nil_append, List.replicate_succ, List.cons_append] at h
      have := (List.cons.inj h).1
      exact absurd (by rw [this]; simp) hA
  | a :: A, b :: B, p, r, hA, hB, h => by
    rw [List.cons_append, List.cons_append] at h
    have hh := List.cons.inj h
    have := noeq_split A B p r (fun x => hA (List.mem_cons_of_mem _ x)) (fun x => hB (List.mem_cons_of_mem _ x)) hh.2
    exact ⟨by rw [hh.1, this.1], this.2⟩
theorem noeq_map (t : Nat) (ht : IsKind t) (G : List Nat) (hG : ∀ x ∈ G, x < 2 ^ t) : (61 : UInt8) ∉ G.map (lt (lettersOf t)) := by
  intro h
  obtain ⟨x, hx, he⟩ := List.mem_map.1 h
  exact lt_ne t ht x (hG x hx) he
theorem pad4_len (o : List UInt8) : (padL 4 o).length % 4 = 0 := by
  unfold padL
  rw [List.length_append, List.length_replicate]
  omega
theorem idx_eq61 (t : Nat) (ht : IsKind t) : idxL (lettersOf t) 61 < 0 := by
  unfold idxL
  rcases Int.lt_or_le (indexByte (lettersOf t).data.toList 61) 0 with hl | hl
  · exact hl
  · obtain ⟨o, ho⟩ := Int.eq_ofNat_of_zero_le hl
    exact absurd (List.mem_of_getElem? (indexByte_some ho).1) (letters_noeq t ht)

theorem read_six (s : List UInt8) : readL (lettersOf 6) 6 4 s = refRead s 6 := by
  have ht : IsKind 6 := .inr (.inl rfl)
  obtain ⟨r, hs, hX⟩ := trim_spec s
  unfold readL
  rw [if_pos (by omega)]
  generalize trimRightB s 61 = X at *
  have hc6 : ∀ c, placeN 6 c = idxL (lettersOf 6) c := fun c => by unfold placeN caseF; rw [if_neg (by omega), if_neg (by omega)]
  have hlen : s.length = X.length + r := by rw [hs]; simp
  have hGx : ∀ (L : List Nat), (∀ x ∈ L, x < 2 ^ 6) → ∃ z, z < 6 ∧ 6 * (tellG 6 (regroup 6 8 L 0 0).1).length = 8 * (regroup 6 8 L 0 0).1.length + z ∧ ∀ x ∈ tellG 6 (regroup 6 8 L 0 0).1, x < 2 ^ 6 := by
    intro L hL
    obtain ⟨E, R, h1, h2, h3, h4'⟩ := regroup_flat 6 8 (by omega) (by omega) (by omega) L hL
    rw [h1]
    obtain ⟨z, hz, hf, hx⟩ := tellG_flat 6 (by omega) (by omega) E h4'
    have := congrArg List.length hf
    rw [flat_len, padded_len] at this
    exact ⟨z, hz, this, hx⟩
  -- what is told ends in as many = as the text, if it is the text
  have htold : ∀ L : List Nat, (∀ x ∈ L, x < 2 ^ 6) → (61 : UInt8) ∉ X → tellL (lettersOf 6) 6 4 (regroup 6 8 L 0 0).1 = s → (tellG 6 (regroup 6 8 L 0 0).1).map (lt (lettersOf 6)) = X ∧ r ≤ 2 := by
    intro L hL hX61 he
    obtain ⟨z, hz, hzl, hx⟩ := hGx L hL
    rw [tellL_G, hs] at he
    unfold padL at he
    have hsp := noeq_split _ _ _ _ (noeq_map 6 ht _ hx) hX61 he
    refine ⟨hsp.1, ?_⟩
    rw [← hsp.2, List.length_map]
    omega
  have hXv : (X.all fun c => decide (0 ≤ idxL (lettersOf 6) c)) = true → (61 : UInt8) ∉ X := by
    intro h h61
    have := List.all_eq_true.1 h 61 h61
    have h2 := idx_eq61 6 ht
    simp at this; omega
  have hlook : (X.map fun c => (idxL (lettersOf 6) c).toNat) = placesN 6 X := by
    unfold placesN
    exact List.map_congr_left fun c _ => by rw [hc6]
  unfold refRead
  by_cases h4 : s.length % 4 = 0
  · rw [if_neg (by omega)]
    have hend : endOf 6 s = X.length + (r - 2) := by
      unfold endOf
      rw [if_pos rfl, hlen, hs, strip_app X r r (Nat.le_refl _) hX, strip_app X r (r - 1) (by omega) hX]
      omega
    rw [hend]
    unfold readB refReadE
    by_cases hr2 : r ≤ 2
    · have htk : s.take (X.length + (r - 2)) = X := by
        rw [hs, show r - 2 = 0 from by omega, Nat.add_zero, List.take_left']
        rfl
      rw [htk]
      have hall : (X.all fun c => decide (0 ≤ idxL (lettersOf 6) c)) = (X.all fun c => decide (0 ≤ placeN 6 c)) := by
        congr 1
      rw [← hall]
      by_cases hv : (X.all fun c => decide (0 ≤ idxL (lettersOf 6) c)) = true
      · rw [if_pos hv, if_pos hv]
        simp only [hlook]
        have h61 := hXv hv
        have hLl := places_lt 6 ht X
        have hXL : X = (placesN 6 X).map (lt (lettersOf 6)) := by
          unfold placesN
          rw [List.map_map]
          conv => lhs; rw [← List.map_id X]
          refine List.map_congr_left fun c hc => ?_
          have := List.all_eq_true.1 hv c hc
          simp only [Function.comp, hc6]
          exact (lt_idx 6 c (by simpa using this)).symm
        obtain ⟨z, hz, hzl, hx⟩ := hGx (placesN 6 X) hLl
        have hag := again 6 ht (placesN 6 X) hLl
        have hiff : tellL (lettersOf 6) 6 4 (regroup 6 8 (placesN 6 X) 0 0).1 = s ↔ ((regroup 6 8 (placesN 6 X) 0 0).2.2 < 6 ∧ (regroup 6 8 (placesN 6 X) 0 0).2.1 = 0) := by
          rw [← hag]
          constructor
          · intro h
            have := (htold _ hLl h61 h).1
            rw [hXL] at this
            refine map_lt_inj 6 ht _ _ hx hLl ?_
            rw [← hXL] at this ⊢
            exact this
          · intro h
            rw [tellL_G, h, ← hXL, hs]
            unfold padL
            congr 2
            omega
        unfold refFin
        by_cases hc : tellL (lettersOf 6) 6 4 (regroup 6 8 (placesN 6 X) 0 0).1 = s
        · rw [if_pos hc, if_neg (by have := hiff.1 hc; omega)]
        · rw [if_neg hc, if_pos (by
            rcases Nat.lt_or_ge (regroup 6 8 (placesN 6 X) 0 0).2.2 6 with h | h
            · right; intro h0; exact hc (hiff.2 ⟨h, h0⟩)
            · left; exact h)]
      · rw [if_neg hv, if_neg hv]
    · have hbad : ((s.take (X.length + (r - 2))).all fun c => decide (0 ≤ placeN 6 c)) ≠ true := by
        intro h
        have hm : (61 : UInt8) ∈ s.take (X.length + (r - 2)) := by
          have : (s.take (X.length + (r - 2)))[X.length]? = some 61 := by
            rw [List.getElem?_take, if_pos (by omega), hs, List.getElem?_append_right (Nat.le_refl _), List.getElem?_replicate, if_pos (by omega)]
          exact List.mem_of_getElem? this
        have := List.all_eq_true.1 h 61 hm
        have h2 := idx_eq61 6 ht
        rw [hc6] at this
        simp at this; omega
      rw [if_neg hbad]
      by_cases hv : (X.all fun c => decide (0 ≤ idxL (lettersOf 6) c)) = true
      · rw [if_pos hv]
        simp only [hlook]
        rw [if_neg]
        intro h
        have := (htold _ (places_lt 6 ht X) (hXv hv) h).2
        omega
      · rw [if_neg hv]
  · rw [if_pos ⟨rfl, h4⟩]
    unfold readB
    by_cases hv : (X.all fun c => decide (0 ≤ idxL (lettersOf 6) c)) = true
    · rw [if_pos hv]
      simp only [hlook]
      rw [if_neg]
      intro h
      have := pad4_len ((tellG 6 (regroup 6 8 (placesN 6 X) 0 0).1).map (lt (lettersOf 6)))
      rw [← tellL_G, h] at this
      exact h4 this
    · rw [if_neg hv]
theorem read_ref (t : Nat) (ht : IsKind t) (s : List UInt8) : readL (lettersOf t) t (fillOf t) (mapOf t s) = refRead s t := by
  rcases ht with rfl | rfl | rfl
  · exact read_one 5 (.inl rfl) (by omega) greatF great_case s
  · exact read_six s
  · exact read_one 4 (.inr (.inr rfl)) (by omega) smallF small_case s
end Go.Proofs.YthnohioamefbmaaDoor
