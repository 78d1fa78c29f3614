/- Plain law: letters told of bytes are read as those bytes, in whatever case; what is read has just those letters; no program in sight. -/
import Derived.Test.YthnohioamefbmaaDoorPureE
import Derived.KernelRfl
namespace Go.Proofs.YthnohioamefbmaaDoor
open Go.RowKit Go.Lib
set_option linter.unusedSimpArgs false
set_option linter.unusedVariables false
set_option maxRecDepth 100000

theorem idx_all5 : ∀ a, a < 32 → idxL (lettersOf 5) (lt (lettersOf 5) a) = (a : Nat) := by decide +kernel
theorem idx_all6 : ∀ a, a < 64 → idxL (lettersOf 6) (lt (lettersOf 6) a) = (a : Nat) := by decide +kernel
theorem idx_all4 : ∀ a, a < 16 → idxL (lettersOf 4) (lt (lettersOf 4) a) = (a : Nat) := by decide +kernel
theorem idx_lt (t : Nat) (ht : IsKind t) (a : Nat) (ha : a < 2 ^ t) : idxL (lettersOf t) (lt (lettersOf t) a) = (a : Nat) := by
  rcases ht with rfl | rfl | rfl
  · exact idx_all5 a (by omega)
  · exact idx_all6 a (by omega)
  · exact idx_all4 a (by omega)
theorem regroup_back (t : Nat) (ht : IsKind t) (l : List Nat) (hl : ∀ x ∈ l, x < 256) : (regroup t 8 (tellG t l) 0 0).1 = l := by
  have k := kind_four ht
  obtain ⟨z, hz, hf, hlt⟩ := tellG_flat t k.1 k.2.1 l hl
  obtain ⟨E, R, h1, h2, h3, h4⟩ := regroup_flat t 8 (by omega) k.2.1 (by omega) (tellG t l) hlt
  rw [h1]
  have e : flat 8 E ++ R = flat 8 l ++ List.replicate z false := by rw [← h2, hf]; rfl
  have hlen := congrArg List.length e
  simp only [List.length_append, flat_len, List.length_replicate] at hlen
  have hk6 : t ≤ 6 := by rcases ht with rfl | rfl | rfl <;> omega
  exact (flat_inj 8 E l _ _ (by simpa using h4) (by simpa using hl) (by omega) e).1
theorem trim_map (t : Nat) (ht : IsKind t) (L : List Nat) (hL : ∀ x ∈ L, x < 2 ^ t) (p : Nat) : trimRightB (L.map (lt (lettersOf t)) ++ List.replicate p 61) 61 = L.map (lt (lettersOf t)) := by
  have hno := noeq_map t ht L hL
  generalize L.map (lt (lettersOf t)) = A at hno ⊢
  obtain ⟨r, hs, hlast⟩ := trim_spec (A ++ List.replicate p 61)
  generalize trimRightB (A ++ List.replicate p 61) 61 = X at hs hlast ⊢
  have hXA : X.length ≤ A.length := by
    by_cases h : X.length ≤ A.length
    · exact h
    · exfalso
      have h0 : 0 < X.length := by omega
      refine hlast h0 ?_
      have e := congrArg (fun l : List UInt8 => l.getD (X.length - 1) 0) hs
      have hl := congrArg List.length hs
      simp only [List.length_append, List.length_replicate] at hl
      have e1 : (A ++ List.replicate p (61 : UInt8)).getD (X.length - 1) 0 = 61 := getD_app_right A p (X.length - 1) (by omega) (by omega)
      rw [e1] at e
      rw [e, List.getD_eq_getElem?_getD, List.getD_eq_getElem?_getD, List.getElem?_append_left (by omega)]
  have hX : X = A.take X.length := by
    have e := congrArg (List.take X.length) hs
    rw [List.take_append_of_le_length hXA, List.take_left' rfl] at e
    exact e.symm
  exact ((noeq_split A X p r hno (fun h => hno (List.mem_of_mem_take (by rw [hX] at h; exact h))) hs).1).symm
theorem read_tell (t : Nat) (ht : IsKind t) (l : List Nat) (hl : ∀ x ∈ l, x < 256) : readL (lettersOf t) t (fillOf t) (tellL (lettersOf t) t (fillOf t) l) = some l := by
  have k := kind_four ht
  obtain ⟨z, hz, hf, hlt⟩ := tellG_flat t k.1 k.2.1 l hl
  have hbare : (if 1 < fillOf t then trimRightB (tellL (lettersOf t) t (fillOf t) l) 61 else tellL (lettersOf t) t (fillOf t) l) = (tellG t l).map (lt (lettersOf t)) := by
    rw [tellL_G]
    split
    · unfold padL; exact trim_map t ht _ hlt _
    · rename_i h
      have : fillOf t = 1 := by have := fill_pos ht; omega
      rw [this, padL_one]
  unfold readL
  rw [hbare]
  unfold readB
  have hidx : ((tellG t l).map (lt (lettersOf t))).map (fun c => (idxL (lettersOf t) c).toNat) = tellG t l := by
    rw [List.map_map]
    conv => rhs; rw [← List.map_id (tellG t l)]
    refine List.map_congr_left fun x hx => ?_
    simp [idx_lt t ht x (hlt x hx)]
  rw [if_pos (by
    rw [List.all_eq_true]
    intro c hc
    obtain ⟨x, hx, rfl⟩ := List.mem_map.1 hc
    rw [idx_lt t ht x (hlt x hx)]
    simp)]
  simp only [hidx, regroup_back t ht l hl, if_true]
/-- what is read has just those letters. -/
theorem tell_read (ls : ByteArray) (t fi : Nat) (s : List UInt8) (u : List Nat) (h : readL ls t fi s = some u) : tellL ls t fi u = s := by
  unfold readL at h
  generalize (if 1 < fi then trimRightB s 61 else s) = bare at h
  unfold readB at h
  by_cases h1 : (bare.all fun c => decide (0 ≤ idxL ls c)) = true
  · rw [if_pos h1] at h
    by_cases h2 : tellL ls t fi (regroup t 8 (bare.map fun c => (idxL ls c).toNat) 0 0).1 = s
    · simp only [h2, if_true, Option.some.injEq] at h
      rw [← h]; exact h2
    · simp only [h2, if_false] at h
      cases h
  · rw [if_neg h1] at h
    cases h
theorem read_lt (t : Nat) (ht : IsKind t) (fi : Nat) (s : List UInt8) (u : List Nat) (h : readL (lettersOf t) t fi s = some u) : ∀ x ∈ u, x < 256 := by
  unfold readL at h
  generalize (if 1 < fi then trimRightB s 61 else s) = bare at h
  unfold readB at h
  by_cases h1 : (bare.all fun c => decide (0 ≤ idxL (lettersOf t) c)) = true
  · rw [if_pos h1] at h
    have k := kind_four ht
    obtain ⟨E, R, e1, e2, e3, e4⟩ := regroup_flat t 8 (by omega) k.2.1 (by omega) (bare.map fun c => (idxL (lettersOf t) c).toNat) (by
      intro x hx
      obtain ⟨c, hc, rfl⟩ := List.mem_map.1 hx
      have h0 := of_decide_eq_true (List.all_eq_true.1 h1 c hc)
      have h2 := idxL_lt (lettersOf t) c
      rw [letters_size t ht] at h2
      have h3 : ((2 ^ t : Nat) : Int) = 2 ^ t := by simp
      omega)
    by_cases h2 : tellL (lettersOf t) t fi (regroup t 8 (bare.map fun c => (idxL (lettersOf t) c).toNat) 0 0).1 = s
    · simp only [h2, if_true, Option.some.injEq] at h
      rw [← h, e1]
      simpa using e4
    · simp only [h2, if_false] at h
      cases h
  · rw [if_neg h1] at h
    cases h
theorem tell_ascii (t : Nat) (ht : IsKind t) (l : List Nat) (hl : ∀ x ∈ l, x < 256) : ∀ b ∈ tellL (lettersOf t) t (fillOf t) l, b.toNat < 128 := by
  have k := kind_four ht
  obtain ⟨z, hz, hf, hlt⟩ := tellG_flat t k.1 k.2.1 l hl
  rw [tellL_G]
  intro b hb
  unfold padL at hb
  rcases List.mem_append.1 hb with h | h
  · obtain ⟨x, hx, rfl⟩ := List.mem_map.1 h
    have := hlt x hx
    refine letters_ascii t ht _ ?_
    unfold lt
    have hs := letters_size t ht
    rw [List.getD_eq_getElem?_getD, List.getElem?_eq_getElem (by rw [← size_eq]; omega)]
    exact List.getElem_mem _
  · rw [(List.mem_replicate.1 h).2]; decide
end Go.Proofs.YthnohioamefbmaaDoor
