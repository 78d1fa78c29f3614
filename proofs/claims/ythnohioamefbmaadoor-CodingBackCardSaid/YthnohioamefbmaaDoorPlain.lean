/- Plain facts on numbers and lists of bytes that the walks of the coding package ask for; no program in sight. -/
import Derived.Laws.BitsLemmas
import Derived.IntWalk
import Derived.Lib.Hide
import Derived.KernelRfl
namespace Go.Proofs.YthnohioamefbmaaDoor
open Go.RowKit
set_option linter.unusedSimpArgs false
set_option linter.unusedVariables false
/-- what `bits` hands out of one number n of m bits, in groups of t; with what is left. -/
def emitN (t : Nat) : Nat → Nat → Nat → List Nat × Nat × Nat
  | 0, n, m => ([], n, m)
  | k + 1, n, m => if t ≤ m then let r := emitN t k (n % 2 ^ (m - t)) (m - t); (n / 2 ^ (m - t) :: r.1, r.2) else ([], n, m)
def regroup (f t : Nat) : List Nat → Nat → Nat → List Nat × Nat × Nat
  | [], n, m => ([], n, m)
  | c :: l, n, m => let e := emitN t 3 (n * 2 ^ f + c) (m + f); let r := regroup f t l e.2.1 e.2.2; (e.1 ++ r.1, r.2)

theorem wrap64_small (n : Int) (h0 : 0 ≤ n) (h1 : n < 2 ^ 40) : wrap64 n = n := by unfold wrap64; omega
theorem wraps_i64 (n : Int) (h₀ : 0 ≤ n) (h₁ : n < 2 ^ 40) : IntKind.i64.wrap n = n := by rw [IntKind.wrap_i64]; omega

theorem or_join (n m f c : Nat) (hn : n < 2 ^ m) (hm : m ≤ 8) (hf : f ≤ 8) (hc : c < 2 ^ f) :
    bits BinOp.or .i64 (wrap64 ((n : Int) * 2 ^ f)) (c : Int) = (n : Int) * 2 ^ f + c := by
  rw [show (n : Int) * 2 ^ f + c = ((n * 2 ^ f + c : Nat) : Int) from by simp]
  have h1 : (2:Nat) ^ m ≤ 2 ^ 8 := Nat.pow_le_pow_right (by omega) hm
  have h2 : (2:Nat) ^ f ≤ 2 ^ 8 := Nat.pow_le_pow_right (by omega) hf
  have hp : 0 < (2:Nat) ^ f := Nat.two_pow_pos f
  have h3 : n * 2 ^ f ≤ 255 * 256 := Nat.mul_le_mul (by omega) (by omega)
  have e : ((n : Int) * 2 ^ f) = ((n * 2 ^ f : Nat) : Int) := by simp
  rw [e, wrap64_small _ (by omega) (by omega), (bits_nat .i64 40 (by decide) wraps_i64 _ _ (by omega) (by omega)).2]
  congr 1
  rw [← Nat.shiftLeft_eq, Nat.shiftLeft_add_eq_or_of_lt hc]

theorem emit_stop (t k n m : Nat) (h : m < t) : emitN t k n m = ([], n, m) := by
  cases k with
  | zero => rfl
  | succ k => simp only [emitN]; rw [if_neg (by omega)]
theorem emit_go (t k n m : Nat) (h : t ≤ m) : emitN t (k + 1) n m = (n / 2 ^ (m - t) :: (emitN t k (n % 2 ^ (m - t)) (m - t)).1, (emitN t k (n % 2 ^ (m - t)) (m - t)).2) := by
  simp only [emitN]; rw [if_pos h]
theorem regroup_cons (f t c : Nat) (l : List Nat) (n m : Nat) : regroup f t (c :: l) n m =
  ((emitN t 3 (n * 2 ^ f + c) (m + f)).1 ++ (regroup f t l (emitN t 3 (n * 2 ^ f + c) (m + f)).2.1 (emitN t 3 (n * 2 ^ f + c) (m + f)).2.2).1, (regroup f t l (emitN t 3 (n * 2 ^ f + c) (m + f)).2.1 (emitN t 3 (n * 2 ^ f + c) (m + f)).2.2).2) := rfl

theorem join_lt (n m f c : Nat) (hn : n < 2 ^ m) (hc : c < 2 ^ f) : n * 2 ^ f + c < 2 ^ (m + f) := by
  have : (n + 1) * 2 ^ f ≤ 2 ^ m * 2 ^ f := Nat.mul_le_mul_right _ (by omega)
  rw [Nat.pow_add]
  have e : (n + 1) * 2 ^ f = n * 2 ^ f + 2 ^ f := by rw [Nat.add_mul]; simp
  omega
theorem shr_lt (n m t : Nat) (hn : n < 2 ^ m) (h : t ≤ m) : n / 2 ^ (m - t) < 2 ^ t := by
  rw [Nat.div_lt_iff_lt_mul (Nat.two_pow_pos _), ← Nat.pow_add]
  rwa [show t + (m - t) = m from by omega]
theorem shr_byte (n m t : Nat) (hn : n < 2 ^ m) (h : t ≤ m) (ht : t ≤ 8) : ((n : Int) / 2 ^ (m - t) % 256) = ((n / 2 ^ (m - t) : Nat) : Int) := by
  have h1 := shr_lt n m t hn h
  have h2 : (2:Nat) ^ t ≤ 2 ^ 8 := Nat.pow_le_pow_right (by omega) ht
  have e : ((n : Int) / 2 ^ (m - t)) = ((n / 2 ^ (m - t) : Nat) : Int) := by simp
  rw [e]; generalize n / 2 ^ (m - t) = q at *; omega
theorem and_mask (n k m : Nat) (hn : n < 2 ^ m) (hm : m < 16) (hk : k < 16) : bits BinOp.and .i64 (n : Int) (wrap64 (wrap64 (2 ^ k) - 1)) = ((n % 2 ^ k : Nat) : Int) := by
  have h1 : (2:Nat) ^ m ≤ 2 ^ 16 := Nat.pow_le_pow_right (by omega) (by omega)
  have h2 : (2:Nat) ^ k ≤ 2 ^ 16 := Nat.pow_le_pow_right (by omega) (by omega)
  have hp := Nat.two_pow_pos k
  have e : (2 : Int) ^ k = ((2 ^ k : Nat) : Int) := by simp
  rw [e, wrap64_small ((2 ^ k : Nat) : Int) (by omega) (by omega), wrap64_small _ (by omega) (by omega), show (((2 ^ k : Nat) : Int) - 1) = ((2 ^ k - 1 : Nat) : Int) from by omega,
    (bits_nat .i64 40 (by decide) wraps_i64 _ _ (by omega) (by omega)).1, Nat.and_two_pow_sub_one_eq_mod]
theorem emit_len (t : Nat) : ∀ k n m, (emitN t k n m).1.length ≤ k
  | 0, _, _ => Nat.le_refl _
  | k + 1, n, m => by
    simp only [emitN]
    split
    · simp only [List.length_cons]; have := emit_len t k (n % 2 ^ (m - t)) (m - t); omega
    · simp
theorem regroup_len (f t : Nat) : ∀ (l : List Nat) n m, (regroup f t l n m).1.length ≤ 3 * l.length
  | [], _, _ => Nat.le_refl _
  | c :: l, n, m => by
    rw [regroup_cons]
    simp only [List.length_append, List.length_cons]
    have h1 := emit_len t 3 (n * 2 ^ f + c) (m + f)
    have h2 := regroup_len f t l (emitN t 3 (n * 2 ^ f + c) (m + f)).2.1 (emitN t 3 (n * 2 ^ f + c) (m + f)).2.2
    omega
/-- the letter of a number. -/
def lt (ls : ByteArray) (c : Nat) : UInt8 := ls.data.toList.getD c 0
/-- letters of what is regrouped: the groups', and what is left's. -/
def tellO (ls : ByteArray) (bi : Nat) (out : List Nat) (r m : Nat) : List UInt8 := out.map (lt ls) ++ (if 0 < m then [lt ls (r * 2 ^ (bi - m))] else [])
def padL (fi : Nat) (o : List UInt8) : List UInt8 := o ++ List.replicate ((fi - o.length % fi) % fi) 61
/-- letters of bytes. -/
def tellL (ls : ByteArray) (bi fi : Nat) (l : List Nat) : List UInt8 := padL fi (tellO ls bi (regroup 8 bi l 0 0).1 (regroup 8 bi l 0 0).2.1 (regroup 8 bi l 0 0).2.2)
theorem emit_bits (t : Nat) : ∀ k n m, t * (emitN t k n m).1.length + (emitN t k n m).2.2 = m
  | 0, n, m => by simp [emitN]
  | k + 1, n, m => by
    by_cases h : t ≤ m
    · rw [emit_go t k n m h]
      have := emit_bits t k (n % 2 ^ (m - t)) (m - t)
      simp only [List.length_cons, Nat.mul_add, Nat.mul_one] at this ⊢
      omega
    · rw [emit_stop t _ n m (by omega)]; simp
theorem regroup_bits (f t : Nat) : ∀ (l : List Nat) n m, t * (regroup f t l n m).1.length + (regroup f t l n m).2.2 = m + f * l.length
  | [], n, m => by simp [regroup]
  | c :: l, n, m => by
    rw [regroup_cons]
    have h1 := emit_bits t 3 (n * 2 ^ f + c) (m + f)
    have h2 := regroup_bits f t l (emitN t 3 (n * 2 ^ f + c) (m + f)).2.1 (emitN t 3 (n * 2 ^ f + c) (m + f)).2.2
    simp only [List.length_append, List.length_cons, Nat.mul_add, Nat.mul_one]
    omega
theorem emit_inv (t : Nat) (ht : 0 < t) : ∀ k n m, n < 2 ^ m → m < t * (k + 1) → (emitN t k n m).2.1 < 2 ^ (emitN t k n m).2.2 ∧ (emitN t k n m).2.2 < t ∧ ∀ x ∈ (emitN t k n m).1, x < 2 ^ t
  | 0, n, m => fun hn hm => by simp only [emitN]; exact ⟨hn, by omega, by simp⟩
  | k + 1, n, m => fun hn hm => by
    by_cases h : t ≤ m
    · rw [emit_go t k n m h]
      have hm' : m - t < t * (k + 1) := by rw [Nat.mul_add t (k + 1) 1] at hm; omega
      obtain ⟨h1, h2, h3⟩ := emit_inv t ht k (n % 2 ^ (m - t)) (m - t) (Nat.mod_lt _ (Nat.two_pow_pos _)) hm'
      refine ⟨h1, h2, ?_⟩
      intro x hx
      rcases List.mem_cons.1 hx with rfl | hx
      · exact shr_lt n m t hn h
      · exact h3 x hx
    · rw [emit_stop t _ n m (by omega)]
      exact ⟨hn, (show m < t by omega), by simp⟩
theorem regroup_inv (f t : Nat) (ht : 4 ≤ t) (hf : f ≤ 8) (htf : t ≤ 8) : ∀ (l : List Nat) n m, (∀ x ∈ l, x < 2 ^ f) → n < 2 ^ m → m < t →
    (regroup f t l n m).2.1 < 2 ^ (regroup f t l n m).2.2 ∧ (regroup f t l n m).2.2 < t ∧ ∀ x ∈ (regroup f t l n m).1, x < 2 ^ t
  | [], n, m => fun _ hn hm => ⟨hn, hm, by simp [regroup]⟩
  | c :: l, n, m => fun hl hn hm => by
    rw [regroup_cons]
    obtain ⟨h1, h2, h3⟩ := emit_inv t (by omega) 3 (n * 2 ^ f + c) (m + f) (join_lt n m f c hn (hl c (by simp))) (by omega)
    obtain ⟨g1, g2, g3⟩ := regroup_inv f t ht hf htf l _ _ (fun x hx => hl x (List.mem_cons_of_mem _ hx)) h1 h2
    refine ⟨g1, g2, ?_⟩
    intro x hx
    rcases List.mem_append.1 hx with hx | hx
    · exact h3 x hx
    · exact g3 x hx
theorem shl_byte (r m b : Nat) (hr : r < 2 ^ m) (hm : m ≤ b) (hb : b ≤ 8) : (r * 2 ^ (b - m)) < 2 ^ b := by
  have : r * 2 ^ (b - m) < 2 ^ m * 2 ^ (b - m) := (Nat.mul_lt_mul_right (Nat.two_pow_pos _)).2 hr
  rwa [← Nat.pow_add, show m + (b - m) = b from by omega] at this
theorem lt_get (ls : ByteArray) (c : Nat) (h : c < ls.size) : ls[c] = lt ls c := by
  unfold lt
  rw [List.getD_eq_getElem?_getD, List.getElem?_eq_getElem (by simpa using h)]
  rfl
end Go.Proofs.YthnohioamefbmaaDoor
