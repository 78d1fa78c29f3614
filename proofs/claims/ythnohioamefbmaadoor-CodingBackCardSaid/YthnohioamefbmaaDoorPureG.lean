/- Plain law: case counts for nothing where the kind says so; no program in sight. -/
import Derived.Test.YthnohioamefbmaaDoorPureF
import Derived.Lib.Case
namespace Go.Proofs.YthnohioamefbmaaDoor
open Go.RowKit Go.Lib
set_option linter.unusedSimpArgs false
set_option linter.unusedVariables false
set_option maxRecDepth 100000

theorem case5_all : ∀ a, a < 32 → caseF 5 (lt (lettersOf 5) a) = lt (lettersOf 5) a ∧ caseF 5 (lowerB (lt (lettersOf 5) a)) = lt (lettersOf 5) a ∧ caseF 5 (upperB (lt (lettersOf 5) a)) = lt (lettersOf 5) a := by decide +kernel
theorem case4_all : ∀ a, a < 16 → caseF 4 (lt (lettersOf 4) a) = lt (lettersOf 4) a ∧ caseF 4 (lowerB (lt (lettersOf 4) a)) = lt (lettersOf 4) a ∧ caseF 4 (upperB (lt (lettersOf 4) a)) = lt (lettersOf 4) a := by decide +kernel
theorem tell_one (t : Nat) (ht : IsKind t) (h6 : t ≠ 6) (l : List Nat) (hl : ∀ x ∈ l, x < 256) : ∃ G : List Nat, tellL (lettersOf t) t (fillOf t) l = G.map (lt (lettersOf t)) ∧ ∀ x ∈ G, x < 2 ^ t := by
  have k := kind_four ht
  obtain ⟨z, hz, hf, hlt⟩ := tellG_flat t k.1 k.2.1 l hl
  refine ⟨tellG t l, ?_, hlt⟩
  have hfo : fillOf t = 1 := by rcases ht with rfl | rfl | rfl <;> first | rfl | exact absurd rfl h6
  rw [tellL_G, hfo, padL_one]
theorem map_case (t : Nat) (h : t = 5 ∨ t = 4) (f : UInt8 → UInt8) (hf : f = id ∨ f = lowerB ∨ f = upperB) (l : List Nat) (hl : ∀ x ∈ l, x < 256) :
    ((tellL (lettersOf t) t (fillOf t) l).map f).map (caseF t) = tellL (lettersOf t) t (fillOf t) l := by
  have ht : IsKind t := by rcases h with rfl | rfl <;> simp [IsKind]
  obtain ⟨G, hG, hlt⟩ := tell_one t ht (by rcases h with rfl | rfl <;> decide) l hl
  rw [hG, List.map_map, List.map_map]
  refine List.map_congr_left fun x hx => ?_
  have hx2 := hlt x hx
  rcases h with rfl | rfl
  · have := case5_all x (by omega)
    rcases hf with rfl | rfl | rfl
    · exact this.1
    · exact this.2.1
    · exact this.2.2
  · have := case4_all x (by omega)
    rcases hf with rfl | rfl | rfl
    · exact this.1
    · exact this.2.1
    · exact this.2.2
theorem ascii_lower : ∀ b : UInt8, b.toNat < 128 → (lowerB b).toNat < 128 ∧ (upperB b).toNat < 128 := by
  have h : ∀ n, n < 128 → (lowerB (UInt8.ofNat n)).toNat < 128 ∧ (upperB (UInt8.ofNat n)).toNat < 128 := by decide +kernel
  intro b hb
  have := h b.toNat hb
  rwa [UInt8.ofNat_toNat] at this
theorem case_upper : ∀ b : UInt8, b.toNat < 128 → caseF 5 b = upperB b ∧ caseF 4 b = lowerB b := by
  have h : ∀ n, n < 128 → caseF 5 (UInt8.ofNat n) = upperB (UInt8.ofNat n) ∧ caseF 4 (UInt8.ofNat n) = lowerB (UInt8.ofNat n) := by decide +kernel
  intro b hb
  have := h b.toNat hb
  rwa [UInt8.ofNat_toNat] at this
theorem read_cased (t : Nat) (h : t = 5 ∨ t = 4) (F : Int → Int) (hF : CaseMap F (caseF t)) (f : UInt8 → UInt8) (hf : f = id ∨ f = lowerB ∨ f = upperB) (l : List Nat) (hl : ∀ x ∈ l, x < 256) :
    readL (lettersOf t) t (fillOf t) (mapD F ((tellL (lettersOf t) t (fillOf t) l).map f)) = some l := by
  have ht : IsKind t := by rcases h with rfl | rfl <;> simp [IsKind]
  have ha := tell_ascii t ht l hl
  rw [mapD_ascii hF _ (by
    intro b hb
    obtain ⟨c, hc, rfl⟩ := List.mem_map.1 hb
    have hc2 := ha c hc
    rcases hf with rfl | rfl | rfl
    · exact hc2
    · exact (ascii_lower c hc2).1
    · exact (ascii_lower c hc2).2), map_case t h f hf l hl]
  exact read_tell t ht l hl
/-- whatever is read in a kind of which case counts for nothing is ascii, and has its letters, in the kind's case. -/
theorem same_cased (t : Nat) (h : t = 5 ∨ t = 4) (F : Int → Int) (hF : CaseMap F (caseF t)) (s : List UInt8) (u : List Nat) (hr : readL (lettersOf t) t (fillOf t) (mapD F s) = some u) :
    (∀ b ∈ s, b.toNat < 128) ∧ tellL (lettersOf t) t (fillOf t) u = s.map (caseF t) := by
  have ht : IsKind t := by rcases h with rfl | rfl <;> simp [IsKind]
  have hu := read_lt t ht _ _ _ hr
  have he := tell_read _ _ _ _ _ hr
  have ha := tell_ascii t ht u hu
  have hs : ∀ b ∈ s, b.toNat < 128 := by
    intro b hb
    by_cases hlt : b.toNat < 128
    · exact hlt
    · exfalso
      obtain ⟨c, hc, hc2⟩ := mapD_high hF _ s (Nat.le_refl _) ⟨b, hb, by omega⟩
      have := ha c (by rw [he]; exact hc)
      omega
  exact ⟨hs, by rw [he, mapD_ascii hF s hs]⟩
theorem same5 (s : List UInt8) (u : List Nat) (hr : readL L32 5 1 (mapD greatF s) = some u) : (∀ b ∈ s, b.toNat < 128) ∧ tellL L32 5 1 u = toUpperA s := by
  obtain ⟨h1, h2⟩ := same_cased 5 (.inl rfl) greatF great_case s u hr
  refine ⟨h1, h2.trans ?_⟩
  exact List.map_congr_left fun b hb => (case_upper b (h1 b hb)).1
theorem same4 (s : List UInt8) (u : List Nat) (hr : readL L16 4 1 (mapD smallF s) = some u) : (∀ b ∈ s, b.toNat < 128) ∧ tellL L16 4 1 u = toLowerA s := by
  obtain ⟨h1, h2⟩ := same_cased 4 (.inr rfl) smallF small_case s u hr
  refine ⟨h1, h2.trans ?_⟩
  exact List.map_congr_left fun b hb => (case_upper b (h1 b hb)).2
theorem same6 (s : List UInt8) (u : List Nat) (hr : readL L64 6 4 s = some u) : tellL L64 6 4 u = s := tell_read _ _ _ _ _ hr
/-- how many letters so many bytes have. -/
theorem len5 (l : List Nat) (hl : ∀ x ∈ l, x < 256) : (tellL L32 5 1 l).length = (8 * l.length + 4) / 5 := by
  have h := tell_len 5 (.inl rfl) l hl
  have e : tellL L32 5 1 l = tellL (lettersOf 5) 5 (fillOf 5) l := rfl
  rw [e, h]
  show (8 * l.length + 5 - 1) / 5 + (1 - _ % 1) % 1 = _
  omega
theorem len6 (l : List Nat) (hl : ∀ x ∈ l, x < 256) : (tellL L64 6 4 l).length = 4 * ((l.length + 2) / 3) := by
  have h := tell_len 6 (.inr (.inl rfl)) l hl
  have e : tellL L64 6 4 l = tellL (lettersOf 6) 6 (fillOf 6) l := rfl
  rw [e, h]
  show (8 * l.length + 6 - 1) / 6 + (4 - (8 * l.length + 6 - 1) / 6 % 4) % 4 = _
  omega
theorem len4 (l : List Nat) (hl : ∀ x ∈ l, x < 256) : (tellL L16 4 1 l).length = 2 * l.length := by
  have h := tell_len 4 (.inr (.inr rfl)) l hl
  have e : tellL L16 4 1 l = tellL (lettersOf 4) 4 (fillOf 4) l := rfl
  rw [e, h]
  show (8 * l.length + 4 - 1) / 4 + (1 - _ % 1) % 1 = _
  omega
end Go.Proofs.YthnohioamefbmaaDoor
