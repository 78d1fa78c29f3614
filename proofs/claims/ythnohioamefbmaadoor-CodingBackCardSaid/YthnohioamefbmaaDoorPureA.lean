/- Plain law on lists of bits; no program in sight. -/
import Derived.Test.YthnohioamefbmaaDoorRefRead
namespace Go.Proofs.YthnohioamefbmaaDoor
open Go.RowKit Go.Lib
set_option linter.unusedSimpArgs false
set_option linter.unusedVariables false

/-- bits of a number, the highest one first. -/
def bitsBE : Nat → Nat → List Bool
  | 0, _ => []
  | f + 1, c => decide (c / 2 ^ f % 2 = 1) :: bitsBE f (c % 2 ^ f)
def val : List Bool → Nat
  | [] => 0
  | b :: l => (if b then 1 else 0) * 2 ^ l.length + val l
def flat (f : Nat) (l : List Nat) : List Bool := l.flatMap (bitsBE f)
theorem bitsBE_len : ∀ f c, (bitsBE f c).length = f
  | 0, _ => rfl
  | f + 1, c => by simp [bitsBE, bitsBE_len f]
theorem bitsBE_val : ∀ f c, c < 2 ^ f → val (bitsBE f c) = c
  | 0, c, h => by simp at h; simp [bitsBE, val, h]
  | f + 1, c, h => by
    have hp : 0 < 2 ^ f := Nat.two_pow_pos f
    have hd : c / 2 ^ f < 2 := by rw [Nat.div_lt_iff_lt_mul hp, Nat.mul_comm, ← Nat.pow_succ]; exact h
    simp only [bitsBE, val, bitsBE_len, bitsBE_val f (c % 2 ^ f) (Nat.mod_lt _ hp)]
    have hdm := Nat.div_add_mod c (2 ^ f)
    have h01 : c / 2 ^ f = 0 ∨ c / 2 ^ f = 1 := by generalize c / 2 ^ f = q at *; omega
    rcases h01 with h0 | h0 <;> rw [h0] at hdm ⊢ <;> simp at hdm ⊢ <;> omega
theorem val_lt : ∀ l, val l < 2 ^ l.length
  | [] => by simp [val]
  | b :: l => by
    have := val_lt l
    simp only [val, List.length_cons, Nat.pow_succ]
    cases b <;> simp <;> omega
theorem val_append : ∀ a b, val (a ++ b) = val a * 2 ^ b.length + val b
  | [], b => by simp [val]
  | x :: a, b => by
    simp only [List.cons_append, val, val_append a b, List.length_append, Nat.pow_add, Nat.add_mul, Nat.mul_assoc, Nat.add_assoc]
theorem val_inj : ∀ a b : List Bool, a.length = b.length → val a = val b → a = b
  | [], [], _, _ => rfl
  | [], _ :: _, h, _ => by simp at h
  | _ :: _, [], h, _ => by simp at h
  | x :: a, y :: b, h, hv => by
    have hl : a.length = b.length := by simpa using h
    have ha := val_lt a
    have hb := val_lt b
    simp only [val, hl] at hv ha
    have hxy : x = y := by cases x <;> cases y <;> simp at hv ⊢ <;> omega
    subst hxy
    rw [val_inj a b hl (by omega)]
theorem flat_nil (f : Nat) : flat f [] = [] := rfl
theorem flat_cons (f c : Nat) (l : List Nat) : flat f (c :: l) = bitsBE f c ++ flat f l := by simp [flat]
theorem flat_append (f : Nat) (a b : List Nat) : flat f (a ++ b) = flat f a ++ flat f b := by simp [flat]
theorem flat_len (f : Nat) : ∀ l, (flat f l).length = f * l.length
  | [] => by simp [flat]
  | c :: l => by rw [flat_cons, List.length_append, bitsBE_len, flat_len f l]; simp [Nat.mul_add]; omega
theorem flat_inj (t : Nat) : ∀ (E E' : List Nat) (R R' : List Bool), (∀ x ∈ E, x < 2 ^ t) → (∀ x ∈ E', x < 2 ^ t) → E.length = E'.length → flat t E ++ R = flat t E' ++ R' → E = E' ∧ R = R'
  | [], [], R, R', _, _, _, h => ⟨rfl, by simpa [flat] using h⟩
  | [], _ :: _, _, _, _, _, h, _ => by simp at h
  | _ :: _, [], _, _, _, _, h, _ => by simp at h
  | x :: E, y :: E', R, R', h1, h2, hl, h => by
    rw [flat_cons, flat_cons, List.append_assoc, List.append_assoc] at h
    have hxy := List.append_inj h (by rw [bitsBE_len, bitsBE_len])
    have he : x = y := by rw [← bitsBE_val t x (h1 x (by simp)), ← bitsBE_val t y (h2 y (by simp)), hxy.1]
    have := flat_inj t E E' R R' (fun z hz => h1 z (List.mem_cons_of_mem _ hz)) (fun z hz => h2 z (List.mem_cons_of_mem _ hz)) (by simpa using hl) hxy.2
    exact ⟨by rw [he, this.1], this.2⟩

/-- 'emitN' by bits. -/
theorem emit_bitsOf (t : Nat) (ht : 0 < t) : ∀ (k : Nat) (N : List Bool), N.length < t * (k + 1) →
    ∃ E R, emitN t k (val N) N.length = (E, val R, R.length) ∧ N = flat t E ++ R ∧ R.length < t ∧ ∀ x ∈ E, x < 2 ^ t
  | 0, N, h => ⟨[], N, rfl, by simp [flat], by omega, by simp⟩
  | k + 1, N, h => by
    by_cases htN : t ≤ N.length
    · rw [emit_go t k _ _ htN]
      have hs : N = N.take t ++ N.drop t := (List.take_append_drop t N).symm
      have hd : (N.drop t).length = N.length - t := by simp
      have hv : val N = val (N.take t) * 2 ^ (N.length - t) + val (N.drop t) := by
        conv => lhs; rw [hs]
        rw [val_append, hd]
      have hlt := val_lt (N.drop t)
      rw [hd] at hlt
      have e1 : val N / 2 ^ (N.length - t) = val (N.take t) := by
        rw [hv, Nat.mul_comm, Nat.mul_add_div (Nat.two_pow_pos _), Nat.div_eq_of_lt hlt]; omega
      have e2 : val N % 2 ^ (N.length - t) = val (N.drop t) := by
        rw [hv, Nat.mul_comm, Nat.mul_add_mod, Nat.mod_eq_of_lt hlt]
      obtain ⟨E, R, h1, h2, h3, h4⟩ := emit_bitsOf t ht k (N.drop t) (by rw [hd]; rw [Nat.mul_add t (k + 1) 1] at h; omega)
      rw [hd] at h1
      rw [e1, e2, h1]
      have htl : (N.take t).length = t := by simp; omega
      have hvt := val_lt (N.take t)
      rw [htl] at hvt
      refine ⟨val (N.take t) :: E, R, rfl, ?_, h3, ?_⟩
      · rw [flat_cons, List.append_assoc, ← h2]
        conv => lhs; rw [hs]
        congr 1
        exact val_inj _ _ (by rw [htl, bitsBE_len]) (by rw [bitsBE_val _ _ hvt])
      · intro x hx
        rcases List.mem_cons.1 hx with rfl | hx
        · exact hvt
        · exact h4 x hx
    · rw [emit_stop t _ _ _ (by omega)]
      exact ⟨[], N, rfl, by simp [flat], by omega, by simp⟩
/-- 'regroup' by bits. -/
theorem regroup_bitsOf (f t : Nat) (ht : 4 ≤ t) (hf : f ≤ 8) (htf : t ≤ 8) : ∀ (l : List Nat) (N : List Bool), (∀ x ∈ l, x < 2 ^ f) → N.length < t →
    ∃ E R, regroup f t l (val N) N.length = (E, val R, R.length) ∧ N ++ flat f l = flat t E ++ R ∧ R.length < t ∧ ∀ x ∈ E, x < 2 ^ t
  | [], N, _, hN => ⟨[], N, rfl, by simp [flat], hN, by simp⟩
  | c :: l, N, hl, hN => by
    rw [regroup_cons]
    have hc := hl c (by simp)
    have hv : val N * 2 ^ f + c = val (N ++ bitsBE f c) := by rw [val_append, bitsBE_len, bitsBE_val f c hc]
    have hlen : N.length + f = (N ++ bitsBE f c).length := by rw [List.length_append, bitsBE_len]
    rw [hv, hlen]
    obtain ⟨E, R, h1, h2, h3, h4⟩ := emit_bitsOf t (by omega) 3 (N ++ bitsBE f c) (by rw [List.length_append, bitsBE_len]; omega)
    rw [h1]
    obtain ⟨E2, R2, g1, g2, g3, g4⟩ := regroup_bitsOf f t ht hf htf l R (fun x hx => hl x (List.mem_cons_of_mem _ hx)) h3
    rw [g1]
    refine ⟨E ++ E2, R2, rfl, ?_, g3, ?_⟩
    · rw [flat_cons, ← List.append_assoc, h2, List.append_assoc, g2, flat_append, List.append_assoc]
    · intro x hx
      rcases List.mem_append.1 hx with hx | hx
      · exact h4 x hx
      · exact g4 x hx
theorem regroup_flat (f t : Nat) (ht : 4 ≤ t) (hf : f ≤ 8) (htf : t ≤ 8) (l : List Nat) (hl : ∀ x ∈ l, x < 2 ^ f) :
    ∃ E R, regroup f t l 0 0 = (E, val R, R.length) ∧ flat f l = flat t E ++ R ∧ R.length < t ∧ ∀ x ∈ E, x < 2 ^ t := by
  have := regroup_bitsOf f t ht hf htf l [] hl (by simp; omega)
  simpa [val] using this
end Go.Proofs.YthnohioamefbmaaDoor
