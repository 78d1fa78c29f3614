/- Plain law on lists of letters; no program in sight. -/
import Derived.Test.YthnohioamefbmaaDoorPureA
namespace Go.Proofs.YthnohioamefbmaaDoor
open Go.RowKit Go.Lib
set_option linter.unusedSimpArgs false
set_option linter.unusedVariables false

theorem val_zero : ∀ n, val (List.replicate n false) = 0
  | 0 => rfl
  | n + 1 => by simp [List.replicate_succ, val, val_zero n]
theorem bits_get : ∀ (f c k : Nat), c < 2 ^ f → k < f → (bitsBE f c)[k]? = some (decide (c / 2 ^ (f - 1 - k) % 2 = 1))
  | 0, _, k, _, hk => by omega
  | f + 1, c, 0, h, _ => by simp [bitsBE]
  | f + 1, c, k + 1, h, hk => by
    simp only [bitsBE, List.getElem?_cons_succ]
    rw [bits_get f (c % 2 ^ f) k (Nat.mod_lt _ (Nat.two_pow_pos _)) (by omega)]
    have e : f + 1 - 1 - (k + 1) = f - 1 - k := by omega
    rw [e]
    congr 2
    have h2 : 2 ^ f = 2 ^ (f - 1 - k) * 2 ^ (k + 1) := by rw [← Nat.pow_add]; congr 1; omega
    rw [h2, Nat.mod_mul_right_div_self]
    have : 2 ^ (k + 1) = 2 * 2 ^ k := by rw [Nat.pow_succ, Nat.mul_comm]
    rw [this, Nat.mod_mul_right_mod]
theorem flat_get (l : List Nat) (hl : ∀ x ∈ l, x < 256) : ∀ k, k < 8 * l.length → (flat 8 l)[k]? = some (decide (bitN l k = 1)) := by
  induction l with
  | nil => intro k hk; simp at hk
  | cons c l ih =>
    intro k hk
    rw [flat_cons]
    have hc : c < 2 ^ 8 := hl c (by simp)
    by_cases h8 : k < 8
    · rw [List.getElem?_append_left (by rw [bitsBE_len]; exact h8), bits_get 8 c k hc h8]
      unfold bitN
      rw [show k / 8 = 0 from by omega, show k % 8 = k from by omega]
      rfl
    · rw [List.getElem?_append_right (by rw [bitsBE_len]; omega), bitsBE_len, ih (fun x hx => hl x (List.mem_cons_of_mem _ hx)) (k - 8) (by simp at hk; omega)]
      unfold bitN
      rw [show k / 8 = (k - 8) / 8 + 1 from by omega, show k % 8 = (k - 8) % 8 from by omega]
      rfl
theorem bitN_out (l : List Nat) (k : Nat) (h : 8 * l.length ≤ k) : bitN l k = 0 := by
  unfold bitN
  rw [List.getD_eq_getElem?_getD, List.getElem?_eq_none (by omega)]
  simp
theorem bitN_lt (l : List Nat) (k : Nat) : bitN l k < 2 := Nat.mod_lt _ (by omega)
/-- the bits, and zeros behind them. -/
def padded (l : List Nat) (z : Nat) : List Bool := flat 8 l ++ List.replicate z false
theorem padded_get (l : List Nat) (hl : ∀ x ∈ l, x < 256) (z k : Nat) (hk : k < 8 * l.length + z) : (padded l z)[k]? = some (decide (bitN l k = 1)) := by
  unfold padded
  by_cases h : k < 8 * l.length
  · rw [List.getElem?_append_left (by rw [flat_len]; exact h), flat_get l hl k h]
  · rw [List.getElem?_append_right (by rw [flat_len]; omega), flat_len, List.getElem?_replicate, if_pos (by omega), bitN_out l k (by omega)]
    rfl
theorem val_snoc (a : List Bool) (b : Bool) : val (a ++ [b]) = 2 * val a + (if b then 1 else 0) := by
  rw [val_append]; simp [val]; omega
theorem grp_val (l : List Nat) (hl : ∀ x ∈ l, x < 256) (z k : Nat) : ∀ j, k + j ≤ 8 * l.length + z → grp l k j = val (((padded l z).drop k).take j)
  | 0, _ => rfl
  | j + 1, h => by
    have hg := padded_get l hl z (k + j) (by omega)
    have e : ((padded l z).drop k).take (j + 1) = ((padded l z).drop k).take j ++ [decide (bitN l (k + j) = 1)] := by
      have h1 : ((padded l z).drop k)[j]? = some (decide (bitN l (k + j) = 1)) := by rw [List.getElem?_drop]; exact hg
      rw [List.take_add_one, h1]; rfl
    rw [e, val_snoc, ← grp_val l hl z k j (by omega)]
    have := bitN_lt l (k + j)
    simp only [grp]
    by_cases hb : bitN l (k + j) = 1
    · simp [hb]
    · have : bitN l (k + j) = 0 := by omega
      simp [this]
theorem padded_len (l : List Nat) (z : Nat) : (padded l z).length = 8 * l.length + z := by simp [padded, flat_len]
theorem refGroups_flat (l : List Nat) (hl : ∀ x ∈ l, x < 256) (t z : Nat) : ∀ q, q * t ≤ 8 * l.length + z → flat t (refGroups l t q) = (padded l z).take (q * t)
  | 0, _ => by simp [refGroups, flat]
  | q + 1, h => by
    have hq : (q + 1) * t = q * t + t := by rw [Nat.add_mul]; simp
    rw [hq] at h ⊢
    have e : refGroups l t (q + 1) = refGroups l t q ++ [grp l (q * t) t] := by unfold refGroups; rw [List.range_succ, List.map_append]; rfl
    rw [e, flat_append, refGroups_flat l hl t z q (by omega), flat_cons, flat_nil, List.append_nil, List.take_add]
    congr 1
    have hlt := val_lt (((padded l z).drop (q * t)).take t)
    have hlen : (((padded l z).drop (q * t)).take t).length = t := by rw [List.length_take, List.length_drop, padded_len]; omega
    rw [hlen] at hlt
    rw [grp_val l hl z (q * t) t (by omega)]
    exact val_inj _ _ (by rw [bitsBE_len, hlen]) (by rw [bitsBE_val _ _ hlt])
theorem refGroups_len (l : List Nat) (t q : Nat) : (refGroups l t q).length = q := by simp [refGroups]
theorem refGroups_lt (l : List Nat) (t q : Nat) : ∀ x ∈ refGroups l t q, x < 2 ^ t := by
  intro x hx
  obtain ⟨i, _, rfl⟩ := List.mem_map.1 hx
  exact grp_lt l _ t

/-- all the groups that 'tell' tells: the whole ones, and what is left, filled up. -/
def tellG (t : Nat) (l : List Nat) : List Nat := (regroup 8 t l 0 0).1 ++ (if 0 < (regroup 8 t l 0 0).2.2 then [(regroup 8 t l 0 0).2.1 * 2 ^ (t - (regroup 8 t l 0 0).2.2)] else [])
theorem tellG_flat (t : Nat) (ht : 4 ≤ t) (ht8 : t ≤ 8) (l : List Nat) (hl : ∀ x ∈ l, x < 256) :
    ∃ z, z < t ∧ flat t (tellG t l) = padded l z ∧ ∀ x ∈ tellG t l, x < 2 ^ t := by
  obtain ⟨E, R, h1, h2, h3, h4⟩ := regroup_flat 8 t ht (by omega) ht8 l hl
  unfold tellG padded
  rw [h1, h2]
  simp only
  by_cases hR : 0 < R.length
  · rw [if_pos hR]
    have hrv := val_lt R
    have hlt := shl_byte (val R) R.length t hrv (by omega) ht8
    refine ⟨t - R.length, by omega, ?_, ?_⟩
    · rw [flat_append, flat_cons, flat_nil, List.append_nil, List.append_assoc]
      congr 1
      refine val_inj _ _ (by rw [bitsBE_len, List.length_append, List.length_replicate]; omega) ?_
      rw [bitsBE_val _ _ hlt, val_append, val_zero, List.length_replicate]; rfl
    · intro x hx
      rcases List.mem_append.1 hx with hx | hx
      · exact h4 x hx
      · rw [List.mem_singleton.1 hx]; exact hlt
  · have hR0 : R = [] := List.length_eq_zero_iff.1 (by omega)
    subst hR0
    rw [if_neg (by simp)]
    exact ⟨0, by omega, by simp, by simpa using h4⟩
theorem tellG_ref (t : Nat) (ht : 4 ≤ t) (ht8 : t ≤ 8) (l : List Nat) (hl : ∀ x ∈ l, x < 256) : tellG t l = refGroups l t ((8 * l.length + t - 1) / t) := by
  obtain ⟨z, hz, hf, hx⟩ := tellG_flat t ht ht8 l hl
  have hlen := congrArg List.length hf
  rw [flat_len, padded_len, Nat.mul_comm t] at hlen
  have hq : (8 * l.length + t - 1) / t = (tellG t l).length := ceil_eq t _ _ (by omega) (by omega) (by omega)
  rw [hq]
  have hr := refGroups_flat l hl t z (tellG t l).length (by omega)
  rw [List.take_of_length_le (by rw [padded_len]; omega), ← hf] at hr
  have := flat_inj t (tellG t l) (refGroups l t (tellG t l).length) [] [] hx (refGroups_lt _ _ _) (by rw [refGroups_len]) (by simpa using hr.symm)
  exact this.1
def fillOf (t : Nat) : Nat := if t = 6 then 4 else 1
theorem tellL_G (ls : ByteArray) (t fi : Nat) (l : List Nat) : tellL ls t fi l = padL fi ((tellG t l).map (lt ls)) := by
  unfold tellL tellO tellG
  congr 1
  rw [List.map_append]
  congr 1
  split <;> rfl
theorem tell_ref (t : Nat) (ht : IsKind t) (l : List Nat) (hl : ∀ x ∈ l, x < 256) : tellL (lettersOf t) t (fillOf t) l = refTell l t := by
  have h4 : 4 ≤ t ∧ t ≤ 8 := by rcases ht with rfl | rfl | rfl <;> omega
  rw [tellL_G, tellG_ref t h4.1 h4.2 l hl]
  rfl
end Go.Proofs.YthnohioamefbmaaDoor
