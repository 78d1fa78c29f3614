/- Targets as tables have them, as plain functions on lists of bytes: what a text tells, and what text tells a target. Plain Lean. (Written in seat ZD's namespace; to be carried over by its name.) -/
import Derived.Test.YtkoncmmbdlnmfaaGreatDoorCoreT
namespace Go.Proofs.YtkoncmmbdlnmfaaGreatDoor
open Go.RowKit Go.Lib
set_option linter.unusedSimpArgs false
set_option linter.unusedVariables false
set_option linter.unnecessarySimpa false
set_option maxRecDepth 100000

/-- a target: its kind, its address, its name. -/
abbrev Tg := Nat × (List UInt8 × List UInt8) × List UInt8
def inclL : List UInt8 := [58, 105, 110, 99, 108, 117, 100, 101, 58]
def failL : List UInt8 := [58, 102, 97, 105, 108, 58]
def dropB : List UInt8 := [58, 100, 114, 111, 112, 58]
/-- a name: letters, digits, '-', '_', at most 32. -/
def nameB (c : UInt8) : Bool := letterB c.toNat || c == 45 || c == 95
def mayName (s : List UInt8) : Bool := !s.isEmpty && decide (s.length ≤ 32) && s.all nameB
/-- a local part as tables have it. -/
def localB (s : List UInt8) : Bool := decide (s.length ≤ 64) && dotGo s true
def cutPre (p s : List UInt8) : Option (List UInt8) := if s.take p.length = p then some (s.drop p.length) else none
def kindL (s : List UInt8) : Nat × List UInt8 :=
  match cutPre [92] s with
  | some r => (3, r)
  | none => match cutPre [47] s with
    | some r => (4, r)
    | none => match cutPre inclL s with
      | some r => (5, r)
      | none => match cutPre failL s with
        | some r => (6, r)
        | none => match cutPre dropB s with
          | some r => (7, r)
          | none => if s.contains 64 then (1, s) else (2, s)
def tg0 : Tg := (0, ([], []), [])
/-- what a text tells: of the kinds that may stand in a .forward exactly; of the others that they are no such. -/
def targL (s : List UInt8) : Option Tg :=
  match kindL s with
  | (1, _) => if (parseL s).2.2 = 0 then some (1, ((parseL s).1, (parseL s).2.1), []) else none
  | (2, r) => if localB r then some (2, ([], []), lowL r) else none
  | (3, r) => if localB r then some (3, ([], []), lowL r) else none
  | (4, r) => if mayName r then some (4, ([], []), r) else none
  | _ => none
/-- the text that tells a target of these kinds, told or not. -/
def tellL (t : Tg) : List UInt8 := if t.1 = 1 then textL t.2.1 else if t.1 = 3 then 92 :: t.2.2 else if t.1 = 4 then 47 :: t.2.2 else t.2.2
theorem cutPre_some {p s r : List UInt8} (h : cutPre p s = some r) : s = p ++ r := by
  unfold cutPre at h
  split at h
  · rename_i h1
    injection h with h
    rw [← h1, ← h]
    exact (List.take_append_drop _ _).symm
  · cases h
theorem cutPre_app (p r : List UInt8) : cutPre p (p ++ r) = some r := by
  unfold cutPre
  rw [if_pos (by simp)]
  simp
theorem cutPre_one {c : UInt8} {s : List UInt8} : cutPre [c] s = none ↔ s.head? ≠ some c := by
  cases s with
  | nil => simp [cutPre]
  | cons d s =>
    constructor
    · intro h e
      simp only [List.head?_cons, Option.some.injEq] at e
      subst e
      have := cutPre_app [d] s
      rw [show ([d] ++ s : List UInt8) = d :: s from rfl, h] at this
      cases this
    · intro h
      cases hc : cutPre [c] (d :: s) with
      | none => rfl
      | some r =>
        have := cutPre_some hc
        simp only [List.singleton_append, List.cons.injEq] at this
        exact absurd (by rw [this.1]; rfl) h
/-- no text that begins with another byte has these beginnings. -/
theorem cutPre_other {c d : UInt8} {p s : List UInt8} (hs : s.head? = some d) (hd : d ≠ c) : cutPre (c :: p) s = none := by
  cases h : cutPre (c :: p) s with
  | none => rfl
  | some r =>
    have := cutPre_some h
    rw [this] at hs
    simp at hs
    exact absurd hs.symm hd
theorem cutPre_nil {c : UInt8} {p : List UInt8} : cutPre (c :: p) [] = none := by
  unfold cutPre
  simp
/-- neither '\', '/' nor ':' ahead: an address, if there is an '@', else a local part. -/
theorem kind_plain {s : List UInt8} (h1 : s.head? ≠ some 92) (h2 : s.head? ≠ some 47) (h3 : s.head? ≠ some 58) : kindL s = if s.contains 64 then (1, s) else (2, s) := by
  have hp : ∀ p, cutPre (58 :: p) s = none := fun p => by
    cases s with
    | nil => exact cutPre_nil
    | cons d s => exact cutPre_other rfl (by simpa using h3)
  unfold kindL
  rw [cutPre_one.2 h1, cutPre_one.2 h2]
  simp only [inclL, failL, dropB, hp]
theorem lowL_idem (l : List UInt8) : lowL (lowL l) = lowL l := by
  unfold lowL
  rw [List.map_map]
  apply List.map_congr_left
  intro b _
  have := byte_all (fun b => lowB (lowB b) == lowB b) (by decide) b
  simpa using this
theorem low_atom (b : UInt8) : atomB (lowB b).toNat = atomB b.toNat := by
  have := byte_all (fun b => atomB (lowB b).toNat == atomB b.toNat) (by decide) b
  simpa using this
theorem low_keep (b c : UInt8) (hc : c = 46 ∨ c = 64 ∨ c = 92 ∨ c = 47 ∨ c = 58) : lowB b = c ↔ b = c := by
  have h : ∀ b, (((lowB b == 46) == (b == 46)) && ((lowB b == 64) == (b == 64)) && ((lowB b == 92) == (b == 92)) && ((lowB b == 47) == (b == 47)) && ((lowB b == 58) == (b == 58))) = true :=
    byte_all (fun b => (((lowB b == 46) == (b == 46)) && ((lowB b == 64) == (b == 64)) && ((lowB b == 92) == (b == 92)) && ((lowB b == 47) == (b == 47)) && ((lowB b == 58) == (b == 58)))) (by decide)
  have hb := h b
  simp only [Bool.and_eq_true, beq_iff_eq] at hb
  obtain ⟨⟨⟨⟨h1, h2⟩, h3⟩, h4⟩, h5⟩ := hb
  have hto : ∀ d : UInt8, ((lowB b == d) = (b == d)) → (lowB b = d ↔ b = d) := fun d hd => by
    rw [← beq_iff_eq, hd, beq_iff_eq]
  rcases hc with rfl | rfl | rfl | rfl | rfl
  · exact hto _ h1
  · exact hto _ h2
  · exact hto _ h3
  · exact hto _ h4
  · exact hto _ h5
theorem dot_low : ∀ (l : List UInt8) (p : Bool), dotGo (lowL l) p = dotGo l p
  | [], p => rfl
  | c :: l, p => by
    have h46 : (lowB c).toNat = 46 ↔ c.toNat = 46 := by
      have := low_keep c 46 (.inl rfl)
      constructor
      · intro h
        have := this.1 (UInt8.toNat_inj.1 h)
        rw [this]; rfl
      · intro h
        have := this.2 (UInt8.toNat_inj.1 h)
        rw [this]; rfl
    show dotGo (lowB c :: lowL l) p = dotGo (c :: l) p
    rw [dotGo, dotGo, low_atom, dot_low l true, dot_low l false]
    by_cases h : c.toNat = 46
    · rw [if_pos h, if_pos (h46.2 h)]
    · rw [if_neg h, if_neg (fun e => h (h46.1 e))]
theorem lowL_len (l : List UInt8) : (lowL l).length = l.length := by simp [lowL]
theorem local_low (l : List UInt8) : localB (lowL l) = localB l := by unfold localB; rw [lowL_len, dot_low]
theorem local_bytes {l : List UInt8} (h : localB l = true) : l ≠ [] ∧ ∀ b ∈ l, b ≠ 92 ∧ b ≠ 58 ∧ b ≠ 64 ∧ b ≠ 34 := by
  unfold localB at h
  simp only [Bool.and_eq_true, decide_eq_true_eq] at h
  refine ⟨?_, fun b hb => ?_⟩
  · rintro rfl
    simp [dotGo] at h
  · have hd := dot_mem _ _ h.2 b hb
    have := byte_all (fun b => !(b.toNat == 46 || atomB b.toNat) || (b != 92 && b != 58 && b != 64 && b != 34)) (by decide) b
    have h2 : (b.toNat == 46 || atomB b.toNat) = true := by
      rcases hd with hd | hd
      · rw [hd]; rfl
      · rw [hd]; simp
    simp only [h2, Bool.not_true, Bool.false_or, Bool.and_eq_true, bne_iff_ne] at this
    exact ⟨this.1.1.1, this.1.1.2, this.1.2, this.2⟩
theorem head_low (l : List UInt8) (c : UInt8) (hc : c = 46 ∨ c = 64 ∨ c = 92 ∨ c = 47 ∨ c = 58) : (lowL l).head? = some c ↔ l.head? = some c := by
  cases l with
  | nil => simp [lowL]
  | cons b l =>
    show some (lowB b) = some c ↔ some b = some c
    rw [Option.some.injEq, Option.some.injEq]
    exact low_keep b c hc
theorem targ_local {r : List UInt8} (h : localB r = true) (h47 : r.head? ≠ some 47) : targL r = some (2, ([], []), lowL r) := by
  obtain ⟨h0, hb⟩ := local_bytes h
  have hh : ∀ c, r.head? = some c → c ∈ r := fun c hc => by
    cases r with
    | nil => simp at hc
    | cons b r => simp at hc; subst hc; exact List.mem_cons_self
  have hk := kind_plain (s := r) (fun e => (hb _ (hh _ e)).1 rfl) h47 (fun e => (hb _ (hh _ e)).2.1 rfl)
  have h64 : r.contains 64 = false := by
    rw [List.contains_eq_mem]
    simpa using fun hm => (hb 64 hm).2.2.1 rfl
  unfold targL
  rw [hk, h64]
  simp only [Bool.false_eq_true, if_false, h, if_true]
theorem targ_final {r : List UInt8} (h : localB r = true) : targL (92 :: r) = some (3, ([], []), lowL r) := by
  have hk : kindL (92 :: r) = (3, r) := by
    unfold kindL
    rw [show (92 :: r : List UInt8) = [92] ++ r from rfl, cutPre_app]
  unfold targL
  rw [hk]
  simp only [h, if_true]
theorem targ_box {r : List UInt8} (h : mayName r = true) : targL (47 :: r) = some (4, ([], []), r) := by
  have hk : kindL (47 :: r) = (4, r) := by
    unfold kindL
    rw [cutPre_one.2 (by simp), show (47 :: r : List UInt8) = [47] ++ r from rfl, cutPre_app]
  unfold targL
  rw [hk]
  simp only [h, if_true]
/-- an address without a quote is told as it was read. -/
theorem text_back {s : List UInt8} (h : (parseL s).2.2 = 0) (hq : s.head? ≠ some 34) : textL ((parseL s).1, (parseL s).2.1) = s := by
  have hm := parse_may s h
  have hf := text_form hm
  rw [hf]
  unfold parseL at h ⊢
  cases hh : headL s with
  | none => rw [hh] at h; simp at h
  | some x =>
    obtain ⟨w, r⟩ := x
    rw [hh] at h
    simp only at h ⊢
    obtain ⟨h1, h2, h3⟩ := tail_inv h
    unfold headL at hh
    rw [if_neg hq] at hh
    split at hh
    · rename_i hd
      injection hh with hh
      injection hh with hw hr
      cases r with
      | nil => simp [tailL] at h
      | cons c d =>
        have et : ∀ c : UInt8, tailL w (c :: d) = if c = 64 then (if domL d = 5 then ([], [], 5) else if domL d = 3 ∨ 64 < w.length then ([], [], 3) else (w, d, 0)) else ([], [], 5) := fun c => rfl
        have hc : c = 64 := by
          rw [et] at h
          split at h
          · assumption
          · simp at h
        subst hc
        have ht : (tailL w (64 :: d)).2.1 = d := by
          rw [et, if_pos rfl] at h ⊢
          split at h
          · simp at h
          · rename_i g1
            rw [if_neg g1]
            split at h
            · simp at h
            · rename_i g2
              rw [if_neg g2]
        rw [h1, ht]
        unfold wordT
        rw [← hw, if_pos hd]
        have := List.takeWhile_append_dropWhile (p := (· != 64)) (l := s)
        rw [hr] at this
        exact this
    · cases hh
/-- what a text without a quote tells, is told: and the text that tells it, tells just it. -/
theorem targ_tell {s : List UInt8} {t : Tg} (h : targL s = some t) (hq : ∀ b ∈ s, b ≠ 34) : targL (tellL t) = some t ∧ tellL t ≠ [] := by
  have hh : ∀ c, s.head? = some c → c ∈ s := fun c hc => by
    cases s with
    | nil => simp at hc
    | cons b r => simp at hc; subst hc; exact List.mem_cons_self
  have h' := h
  unfold targL at h
  cases hk : kindL s with
  | mk k r =>
    rw [hk] at h
    have kinds : ∀ {k r}, kindL s = (k, r) → (k = 1 → r = s) ∧ (k = 2 → r = s ∧ s.head? ≠ some 47) := by
      intro k r hk
      unfold kindL at hk
      split at hk
      · injection hk with h1 h2; omega
      · split at hk
        · injection hk with h1 h2; omega
        · rename_i h47
          split at hk
          · injection hk with h1 h2; omega
          · split at hk
            · injection hk with h1 h2; omega
            · split at hk
              · injection hk with h1 h2; omega
              · split at hk
                · injection hk with h1 h2; exact ⟨fun _ => h2.symm, fun e => by omega⟩
                · injection hk with h1 h2; exact ⟨fun e => by omega, fun _ => ⟨h2.symm, cutPre_one.1 h47⟩⟩
    obtain ⟨k1, k2⟩ := kinds hk
    match k, r, hk, h, k1, k2 with
    | 1, r, hk, h, k1, k2 =>
      simp only at h
      split at h
      · rename_i h0
        injection h with h
        subst h
        have ht := text_back h0 (fun e => hq _ (hh _ e) rfl)
        have e : tellL (1, ((parseL s).1, (parseL s).2.1), []) = s := by simpa [tellL] using ht
        refine ⟨by rw [e]; exact h', ?_⟩
        rw [e]
        rintro rfl
        simp [parseL, headL, dotGo] at h0
      · cases h
    | 2, r, hk, h, k1, k2 =>
      simp only at h
      split at h
      · rename_i h0
        injection h with h
        subst h
        obtain ⟨rfl, h47⟩ := k2 rfl
        have e : tellL (2, ([], []), lowL r) = lowL r := by simp [tellL]
        rw [e]
        refine ⟨?_, ?_⟩
        · have := targ_local (r := lowL r) (by rw [local_low]; exact h0) (fun e => h47 ((head_low r 47 (by simp)).1 e))
          rw [lowL_idem] at this
          exact this
        · intro e0
          have := (local_bytes h0).1
          apply this
          have hl := congrArg List.length e0
          rw [lowL_len] at hl
          exact List.eq_nil_of_length_eq_zero hl
      · cases h
    | 3, r, hk, h, k1, k2 =>
      simp only at h
      split at h
      · rename_i h0
        injection h with h
        subst h
        have e : tellL (3, ([], []), lowL r) = 92 :: lowL r := by simp [tellL]
        rw [e]
        refine ⟨?_, by simp⟩
        have := targ_final (r := lowL r) (by rw [local_low]; exact h0)
        rw [lowL_idem] at this
        exact this
      · cases h
    | 4, r, hk, h, k1, k2 =>
      simp only at h
      split at h
      · rename_i h0
        injection h with h
        subst h
        have e : tellL (4, ([], []), r) = 47 :: r := by simp [tellL]
        rw [e]
        exact ⟨targ_box h0, by simp⟩
      · cases h
    | 0, r, hk, h, k1, k2 => cases h
    | k + 5, r, hk, h, k1, k2 => cases h
/-- a local one that is the user's own is told as a final one. -/
theorem targ_own {s : List UInt8} {n : List UInt8} (h : targL s = some (2, ([], []), n)) : targL (tellL (3, ([], []), n)) = some (3, ([], []), n) ∧ tellL (3, ([], []), n) ≠ [] := by
  have h0 : ∃ r, localB r = true ∧ n = lowL r := by
    unfold targL at h
    split at h
    · split at h
      · injection h with h; injection h with h1 h2; omega
      · cases h
    · rename_i r hk
      split at h
      · rename_i h0
        injection h with h; injection h with h1 h2; injection h2 with h2 h3
        exact ⟨r, h0, h3.symm⟩
      · cases h
    · split at h
      · injection h with h; injection h with h1 h2; omega
      · cases h
    · split at h
      · injection h with h; injection h with h1 h2; omega
      · cases h
    · cases h
  obtain ⟨r, h1, rfl⟩ := h0
  have e : tellL (3, ([], []), lowL r) = 92 :: lowL r := by simp [tellL]
  rw [e]
  refine ⟨?_, by simp⟩
  have := targ_final (r := lowL r) (by rw [local_low]; exact h1)
  rw [lowL_idem] at this
  exact this
end Go.Proofs.YtkoncmmbdlnmfaaGreatDoor
