/- The plain laws of the pieces of a text, of dot-atoms, quoted words, numbers and domains: plain Lean, no program in sight. -/
import Derived.Test.YtkoncmmbdlnmfaaGreatDoorDot
import Derived.Lib.SplitLaws
import Derived.Lib.SlTrimSet
namespace Go.Proofs.YtkoncmmbdlnmfaaGreatDoor
open Go.RowKit Go.Lib
set_option linter.unusedSimpArgs false
set_option linter.unusedVariables false
set_option linter.unnecessarySimpa false

def pieces (c : UInt8) : List UInt8 → List (List UInt8)
  | [] => [[]]
  | x :: xs => if x = c then [] :: pieces c xs else
      match pieces c xs with
      | [] => [[x]]
      | p :: ps => (x :: p) :: ps
theorem pieces_form (c : UInt8) (l : List UInt8) : ∃ p ps, pieces c l = p :: ps := by
  cases l with
  | nil => exact ⟨_, _, rfl⟩
  | cons x xs =>
    unfold pieces
    split
    · exact ⟨_, _, rfl⟩
    · split <;> exact ⟨_, _, rfl⟩
theorem pieces_eq (c : UInt8) (xs : List UInt8) : pieces c (c :: xs) = [] :: pieces c xs := by simp [pieces]
theorem pieces_ne (c x : UInt8) (xs p : List UInt8) (ps : List (List UInt8)) (hx : x ≠ c) (h : pieces c xs = p :: ps) : pieces c (x :: xs) = (x :: p) :: ps := by
  simp [pieces, hx, h]
theorem pieces_take (c : UInt8) : ∀ (l : List UInt8) (i : Nat), l[i]? = some c → (∀ k, k < i → l[k]? ≠ some c) → pieces c l = l.take i :: pieces c (l.drop (i + 1))
  | [], i, h, _ => by simp at h
  | x :: xs, 0, h, _ => by
    have hx : x = c := by simpa using h
    subst hx
    simp [pieces]
  | x :: xs, i + 1, h, hn => by
    have hx : x ≠ c := by have := hn 0 (by omega); simpa using this
    have := pieces_take c xs i (by simpa using h) (fun k hk => by have := hn (k + 1) (by omega); simpa using this)
    simp [pieces, hx, this]
theorem pieces_one (c : UInt8) : ∀ (l : List UInt8), (∀ k : Nat, l[k]? ≠ some c) → pieces c l = [l]
  | [], _ => rfl
  | x :: xs, hn => by
    have hx : x ≠ c := by have := hn 0; simpa using this
    have := pieces_one c xs (fun k => by have := hn (k + 1); simpa using this)
    simp [pieces, hx, this]
theorem pieces_miss (c : UInt8) (l : List UInt8) (h : indexByte l c = -1) : pieces c l = [l] := pieces_one c l (indexByte_none h)
theorem pieces_hit (c : UInt8) (l : List UInt8) (i : Nat) (h : indexByte l c = i) : pieces c l = l.take i :: pieces c (l.drop (i + 1)) := pieces_take c l i (indexByte_some h).1 (indexByte_some h).2
theorem splitK_pieces (c : UInt8) : ∀ (k : Nat) (l : List UInt8), count l [c] = k → splitK [c] 0 k l = pieces c l
  | 0, l, h => by
    rcases index_spec l [c] with ⟨h1, _⟩ | ⟨i, h1, _⟩
    · rw [index_one] at h1; rw [pieces_miss c l h1]; rfl
    · rw [count_hit (by simp) h1] at h; omega
  | k + 1, l, h => by
    rcases index_spec l [c] with ⟨h1, _⟩ | ⟨i, h1, _⟩
    · rw [count_miss h1] at h; omega
    · have h2 := h
      rw [count_hit (by simp) h1] at h2
      have hm : ¬ (index l [c] == -1) = true := fun e => by have := beq_iff_eq.1 e; omega
      have e : (index l [c]).toNat = i := by omega
      rw [index_one] at h1
      rw [pieces_hit c l i h1, splitK, if_neg hm, e, splitK_pieces c k _ (by simpa using (by omega : count (l.drop (i + [c].length)) [c] = k))]
      simp
theorem splitB_pieces (c : UInt8) (s : ByteArray) : Lib.splitB ⟨#[c]⟩ 0 (Lib.countB s ⟨#[c]⟩) s = (pieces c s.data.toList).map fun p => (⟨p.toArray⟩ : ByteArray) := by
  have h := splitB_data ⟨#[c]⟩ 0 (Lib.countB s ⟨#[c]⟩) s
  have h2 : splitK [c] 0 (Lib.countB s ⟨#[c]⟩) s.data.toList = pieces c s.data.toList := splitK_pieces c _ _ rfl
  rw [h2] at h
  rw [← h, List.map_map]
  conv => lhs; rw [← List.map_id (Lib.splitB ⟨#[c]⟩ 0 (Lib.countB s ⟨#[c]⟩) s)]
  refine List.map_congr_left fun x _ => ?_
  cases x
  simp
theorem splitB_length (c : UInt8) (s : ByteArray) : Lib.countB s ⟨#[c]⟩ + 1 = (pieces c s.data.toList).length := by
  have h := splitB_all ⟨#[c]⟩ (Nat.le_refl 1) 0 (Lib.countB s ⟨#[c]⟩) s rfl
  rw [splitB_pieces, List.length_map] at h
  omega
theorem pieces_count (c : UInt8) : ∀ l : List UInt8, (pieces c l).length = l.count c + 1
  | [] => rfl
  | x :: xs => by
    obtain ⟨p, ps, h⟩ := pieces_form c xs
    have ih := pieces_count c xs
    by_cases hx : x = c
    · subst hx; rw [pieces_eq, List.length_cons, ih]; simp
    · rw [pieces_ne c x xs p ps hx h, List.length_cons, List.count_cons_of_ne hx, ← ih, h, List.length_cons]
theorem pieces_len (c : UInt8) (l : List UInt8) : (pieces c l).length ≤ l.length + 1 := by
  rw [pieces_count]
  have := List.count_le_length (a := c) (l := l)
  omega
theorem pieces_small (c : UInt8) : ∀ (l p : List UInt8), p ∈ pieces c l → p.length ≤ l.length
  | [], p, h => by simp [pieces] at h; subst h; simp
  | x :: xs, p, h => by
    obtain ⟨q, qs, hq⟩ := pieces_form c xs
    have ih := pieces_small c xs
    by_cases hx : x = c
    · subst hx
      rw [pieces_eq] at h
      rcases List.mem_cons.1 h with rfl | h
      · simp
      · have := ih p h; simp only [List.length_cons]; omega
    · rw [pieces_ne c x xs q qs hx hq] at h
      rcases List.mem_cons.1 h with rfl | h
      · have := ih q (by rw [hq]; simp); simp only [List.length_cons]; omega
      · have := ih p (by rw [hq]; exact List.mem_cons_of_mem _ h); simp only [List.length_cons]; omega

/-! dot-atoms -/
def atomL (p : List UInt8) : Bool := !p.isEmpty && p.all fun b => atomB b.toNat
theorem dotGo_pieces : ∀ l : List UInt8, dotGo l true = (pieces 46 l).all atomL ∧ ∀ p ps, pieces 46 l = p :: ps → dotGo l false = ((p.all fun b => atomB b.toNat) && ps.all atomL)
  | [] => ⟨by simp [dotGo, pieces, atomL], fun p ps h => by simp [pieces] at h; obtain ⟨rfl, rfl⟩ := h; simp [dotGo]⟩
  | x :: xs => by
    obtain ⟨q, qs, hq⟩ := pieces_form 46 xs
    obtain ⟨ih1, ih2⟩ := dotGo_pieces xs
    have ih2 := ih2 q qs hq
    by_cases hx : x = 46
    · subst hx
      refine ⟨by simp [dotGo, pieces_eq, atomL], fun p ps h => ?_⟩
      rw [pieces_eq] at h
      injection h with h1 h2
      subst h1; subst h2
      simp [dotGo, ih1]
    · have hx2 : ¬ x.toNat = 46 := fun e => hx (UInt8.toNat_inj.1 e)
      rw [pieces_ne 46 x xs q qs hx hq]
      refine ⟨?_, fun p ps h => ?_⟩
      · unfold dotGo
        rw [if_neg hx2, ih2]
        cases hA : atomB x.toNat <;> simp [List.all_cons, atomL, hA]
      · injection h with h1 h2
        subst h1; subst h2
        unfold dotGo
        rw [if_neg hx2, ih2]
        cases hA : atomB x.toNat <;> simp [List.all_cons, hA]
theorem dotGo_all (l : List UInt8) : dotGo l true = (pieces 46 l).all atomL := (dotGo_pieces l).1

/-! quoted words: the word, how many bytes, the error -/
def quotGo : List UInt8 → List UInt8 → Nat → List UInt8 × Nat × Nat
  | [], _, _ => ([], 0, 4)
  | [c], out, k => if c.toNat = 34 then (out, k + 1, 0) else if c.toNat = 92 then ([], 0, 4) else if plainB c.toNat then ([], 0, 4) else ([], 0, 5)
  | c :: d :: r, out, k => if c.toNat = 34 then (out, k + 1, 0) else if c.toNat = 92 then (if plainB d.toNat then quotGo r (out ++ [d]) (k + 2) else ([], 0, 5))
      else if plainB c.toNat then quotGo (d :: r) (out ++ [c]) (k + 1) else ([], 0, 5)
def quoted (l : List UInt8) : List UInt8 × Nat × Nat := match l with
  | [] => ([], 0, 5)
  | c :: r => if c.toNat = 34 then quotGo r [] 1 else ([], 0, 5)
theorem quotGo_many : ∀ (l out : List UInt8) (k : Nat), (quotGo l out k).2.1 ≤ k + l.length
  | [], _, _ => by simp [quotGo]
  | [c], out, k => by
    unfold quotGo
    split
    · simp
    · split
      · simp
      · split <;> simp
  | c :: d :: r, out, k => by
    unfold quotGo
    split
    · simp
    · split
      · split
        · have := quotGo_many r (out ++ [d]) (k + 2); simp only [List.length_cons]; omega
        · simp
      · split
        · have := quotGo_many (d :: r) (out ++ [c]) (k + 1); simp only [List.length_cons] at *; omega
        · simp
theorem quoted_many (l : List UInt8) : (quoted l).2.1 ≤ l.length := by
  unfold quoted
  split
  · simp
  · split
    · have := quotGo_many ‹_› [] 1; simp only [List.length_cons]; omega
    · simp

/-! numbers -/
def digitB (b : UInt8) : Bool := decide (48 ≤ b.toNat) && decide (b.toNat ≤ 57)
def numV (l : List UInt8) : Nat := l.foldl (fun n b => 10 * n + (b.toNat - 48)) 0
def numOk (l : List UInt8) (d : Int) : Bool := !l.isEmpty && decide ((l.length : Int) ≤ max 1 (min d 15)) && l.all digitB
theorem trimS_nil (cs : List UInt8) (l : List UInt8) : (trimS l cs).isEmpty = l.all fun b => cs.contains b := by
  have dw_nil : ∀ (p : UInt8 → Bool) (m : List UInt8), m.all p = true → m.dropWhile p = [] := by
    intro p m
    induction m with
    | nil => intro _; rfl
    | cons a m ih =>
      intro h
      simp only [List.all_cons, Bool.and_eq_true] at h
      rw [List.dropWhile_cons_of_pos h.1]
      exact ih h.2
  have nil_dw : ∀ (p : UInt8 → Bool) (m : List UInt8), m.dropWhile p = [] → m.all p = true := by
    intro p m
    induction m with
    | nil => intro _; rfl
    | cons a m ih =>
      intro h
      cases ha : p a with
      | true => rw [List.dropWhile_cons_of_pos ha] at h; simp only [List.all_cons, ha, ih h]; rfl
      | false => rw [List.dropWhile_cons_of_neg (by simp [ha])] at h; cases h
  have all_drop : ∀ (p : UInt8 → Bool) (m : List UInt8), (m.dropWhile p).all p = true → m.all p = true := by
    intro p m
    induction m with
    | nil => intro _; rfl
    | cons a m ih =>
      intro h
      cases ha : p a with
      | true => rw [List.dropWhile_cons_of_pos ha] at h; simp only [List.all_cons, ha, ih h]; rfl
      | false => rw [List.dropWhile_cons_of_neg (by simp [ha])] at h; simp only [List.all_cons, ha] at h; cases h
  cases h : l.all (fun b => cs.contains b) with
  | true =>
    have h2 : trimRightS l cs = [] := by
      unfold trimRightS
      rw [List.reverse_eq_nil_iff]
      exact dw_nil _ _ (by rw [List.all_reverse]; exact h)
    unfold trimS
    rw [h2]; rfl
  | false =>
    cases h3 : (trimS l cs).isEmpty with
    | false => rfl
    | true =>
      exfalso
      have h4 : trimS l cs = [] := List.isEmpty_iff.1 h3
      unfold trimS trimLeftS at h4
      have h5 := nil_dw _ _ h4
      unfold trimRightS at h5
      rw [List.all_reverse] at h5
      have h6 := all_drop _ _ h5
      rw [List.all_reverse] at h6
      rw [h] at h6
      cases h6

/-! domains -/
def hostB (b : UInt8) : Bool := letterB b.toNat || b == 45
def edgeB (p : List UInt8) : Bool := !p.isEmpty && p.head? != some 45 && p.getLast? != some 45
def labelL (p : List UInt8) : Bool := edgeB p && p.all hostB
def domGo : List UInt8 → List UInt8 → Bool → Nat
  | cur, [], long => if edgeB cur then (if long || decide (63 < cur.length) then 3 else 0) else 5
  | cur, x :: xs, long => if x.toNat = 46 then (if edgeB cur then domGo [] xs (long || decide (63 < cur.length)) else 5)
      else if hostB x then domGo (cur ++ [x]) xs long else 5
def domP (l : List UInt8) : Nat := if (pieces 46 l).all labelL then (if decide (255 < l.length) || (pieces 46 l).any (fun p => decide (63 < p.length)) then 3 else 0) else 5
theorem domGo_pieces : ∀ (l cur : List UInt8) (long : Bool) (p : List UInt8) (ps : List (List UInt8)), cur.all hostB = true → pieces 46 l = p :: ps →
    domGo cur l long = if ((cur ++ p) :: ps).all labelL then (if long || ((cur ++ p) :: ps).any (fun p => decide (63 < p.length)) then 3 else 0) else 5
  | [], cur, long, p, ps, hc, h => by
    simp [pieces] at h
    obtain ⟨rfl, rfl⟩ := h
    simp [domGo, labelL, hc]
  | x :: xs, cur, long, p, ps, hc, h => by
    obtain ⟨q, qs, hq⟩ := pieces_form 46 xs
    by_cases hx : x = 46
    · subst hx
      rw [pieces_eq] at h
      injection h with h1 h2
      subst h1; subst h2
      have ih := domGo_pieces xs [] (long || decide (63 < cur.length)) q qs rfl hq
      unfold domGo
      rw [if_pos (by rfl), ih, hq]
      cases he : edgeB cur <;> simp [labelL, he, hc, Bool.or_assoc]
    · have hx2 : ¬ x.toNat = 46 := fun e => hx (UInt8.toNat_inj.1 e)
      rw [pieces_ne 46 x xs q qs hx hq] at h
      injection h with h1 h2
      subst h1; subst h2
      unfold domGo
      rw [if_neg hx2]
      cases hh : hostB x with
      | true =>
        have ih := domGo_pieces xs (cur ++ [x]) long q qs (by simp [hc, hh]) hq
        rw [if_pos rfl, ih]
        simp
      | false =>
        rw [if_neg (by simp)]
        simp [labelL, hh]
theorem domGo_domP (l : List UInt8) : domGo [] l (decide (255 < l.length)) = domP l := by
  obtain ⟨q, qs, hq⟩ := pieces_form 46 l
  rw [domGo_pieces l [] _ q qs rfl hq]
  simp [domP, hq]
end Go.Proofs.YtkoncmmbdlnmfaaGreatDoor
