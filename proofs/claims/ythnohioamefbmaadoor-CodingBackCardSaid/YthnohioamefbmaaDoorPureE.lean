/- Plain law: letters of whole groups and of others behind them are those of both; a byte changed changes its letters; how many letters there are; no program in sight. -/
import Derived.Test.YthnohioamefbmaaDoorPureD
namespace Go.Proofs.YthnohioamefbmaaDoor
open Go.RowKit Go.Lib
set_option linter.unusedSimpArgs false
set_option linter.unusedVariables false

theorem kind_four {t : Nat} (ht : IsKind t) : 4 ≤ t ∧ t ≤ 8 ∧ 0 < t := by rcases ht with rfl | rfl | rfl <;> omega
theorem fill_pos {t : Nat} (ht : IsKind t) : 0 < fillOf t := by rcases ht with rfl | rfl | rfl <;> decide
theorem tellG_len (t : Nat) (ht : IsKind t) (l : List Nat) (hl : ∀ x ∈ l, x < 256) : (tellG t l).length = (8 * l.length + t - 1) / t := by
  have h := kind_four ht
  rw [tellG_ref t h.1 h.2.1 l hl, refGroups_len]
theorem padL_len (fi : Nat) (o : List UInt8) : (padL fi o).length = o.length + (fi - o.length % fi) % fi := by simp [padL]
theorem tell_len (t : Nat) (ht : IsKind t) (l : List Nat) (hl : ∀ x ∈ l, x < 256) :
    (tellL (lettersOf t) t (fillOf t) l).length = (8 * l.length + t - 1) / t + (fillOf t - (8 * l.length + t - 1) / t % fillOf t) % fillOf t := by
  rw [tellL_G, padL_len, List.length_map, tellG_len t ht l hl]
theorem tell_len_same (t : Nat) (ht : IsKind t) (l m : List Nat) (hl : ∀ x ∈ l, x < 256) (hm : ∀ x ∈ m, x < 256) (h : l.length = m.length) :
    (tellL (lettersOf t) t (fillOf t) l).length = (tellL (lettersOf t) t (fillOf t) m).length := by
  rw [tell_len t ht l hl, tell_len t ht m hm, h]
theorem tell_inj (t : Nat) (ht : IsKind t) (l m : List Nat) (hl : ∀ x ∈ l, x < 256) (hm : ∀ x ∈ m, x < 256) (h : l.length = m.length)
    (he : tellL (lettersOf t) t (fillOf t) l = tellL (lettersOf t) t (fillOf t) m) : l = m := by
  have k := kind_four ht
  obtain ⟨z, hz, hf, hlt⟩ := tellG_flat t k.1 k.2.1 l hl
  obtain ⟨z', hz', hf', hlt'⟩ := tellG_flat t k.1 k.2.1 m hm
  have hG : (tellG t l).length = (tellG t m).length := by rw [tellG_len t ht l hl, tellG_len t ht m hm, h]
  rw [tellL_G, tellL_G] at he
  unfold padL at he
  have e1 := (List.append_inj he (by simp [hG])).1
  have e2 := map_lt_inj t ht _ _ hlt hlt' e1
  have e3 : padded l z = padded m z' := by rw [← hf, ← hf', e2]
  unfold padded at e3
  exact (flat_inj 8 l m _ _ (by simpa using hl) (by simpa using hm) h e3).1
/-- whole groups, and others behind them. -/
theorem tell_join (t : Nat) (ht : IsKind t) (gr : Nat) (hg : (t = 5 ∧ gr = 5) ∨ (t = 6 ∧ gr = 3) ∨ (t = 4 ∧ gr = 1)) (l m : List Nat) (hl : ∀ x ∈ l, x < 256) (hm : ∀ x ∈ m, x < 256) (hw : l.length % gr = 0) :
    tellL (lettersOf t) t (fillOf t) (l ++ m) = tellL (lettersOf t) t (fillOf t) l ++ tellL (lettersOf t) t (fillOf t) m := by
  have k := kind_four ht
  have hlm : ∀ x ∈ l ++ m, x < 256 := fun x hx => (List.mem_append.1 hx).elim (hl x) (hm x)
  obtain ⟨z, hz, hf, hlt⟩ := tellG_flat t k.1 k.2.1 l hl
  obtain ⟨z', hz', hf', hlt'⟩ := tellG_flat t k.1 k.2.1 m hm
  obtain ⟨z'', hz'', hf'', hlt''⟩ := tellG_flat t k.1 k.2.1 (l ++ m) hlm
  have g1 := tellG_len t ht l hl
  have g2 := tellG_len t ht m hm
  have g3 := tellG_len t ht (l ++ m) hlm
  rw [List.length_append] at g3
  have b1 := congrArg List.length hf
  have b2 := congrArg List.length hf'
  have b3 := congrArg List.length hf''
  rw [flat_len, padded_len] at b1 b2 b3
  rw [List.length_append] at b3
  have hz0 : z = 0 ∧ (tellG t (l ++ m)).length = (tellG t l).length + (tellG t m).length ∧ (tellG t l).length % fillOf t = 0 := by
    rcases hg with ⟨rfl, rfl⟩ | ⟨rfl, rfl⟩ | ⟨rfl, rfl⟩ <;> refine ⟨?_, ?_, ?_⟩ <;> first | omega | (simp only [fillOf]; simp; omega)
  obtain ⟨rfl, hlen, hfill⟩ := hz0
  have hzz : z'' = z' := by
    rw [hlen, Nat.mul_add] at b3
    omega
  subst hzz
  have hG : tellG t (l ++ m) = tellG t l ++ tellG t m := by
    have e : flat t (tellG t (l ++ m)) ++ [] = flat t (tellG t l ++ tellG t m) ++ [] := by
      rw [flat_append, hf, hf', hf'']
      simp [padded, flat_append]
    refine (flat_inj t _ _ [] [] hlt'' ?_ (by rw [hlen, List.length_append]) e).1
    intro x hx
    exact (List.mem_append.1 hx).elim (hlt x) (hlt' x)
  rw [tellL_G, tellL_G, tellL_G, hG]
  unfold padL
  have hp := fill_pos ht
  have h0 : (fillOf t - ((tellG t l).map (lt (lettersOf t))).length % fillOf t) % fillOf t = 0 := by
    rw [List.length_map, hfill]; simp
  have h1 : ((tellG t l ++ tellG t m).map (lt (lettersOf t))).length % fillOf t = ((tellG t m).map (lt (lettersOf t))).length % fillOf t := by
    rw [List.length_map, List.length_map, List.length_append, Nat.add_mod, hfill]; simp
  rw [h0, h1]
  simp
end Go.Proofs.YthnohioamefbmaaDoor
