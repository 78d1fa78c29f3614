/- What a .forward's entries tell: what the walk of Parse asks. Plain Lean. -/
import Derived.Test.YtkoncmmbdlnmfaaGreatDoorEK3
import Derived.Test.YtkoncmmbdlnmfaaGreatDoorFlines
namespace Go.Proofs.YtkoncmmbdlnmfaaGreatDoor
open Go.RowKit Go.Lib
set_option linter.unusedSimpArgs false
set_option linter.unusedVariables false
set_option linter.unnecessarySimpa false
set_option maxRecDepth 100000

theorem targ_short {s : List UInt8} {t : Tg} (h : targL s = some t) (hq : ∀ b ∈ s, b ≠ 34) (hs : s.length ≤ 100000) : ShortT t := by
  have hk := targ_kind h
  have hl := kind_len s
  have hh : ∀ c, s.head? = some c → c ∈ s := fun c hc => by
    cases s with
    | nil => simp at hc
    | cons b r => simp at hc; subst hc; exact List.mem_cons_self
  unfold targL at h
  generalize kindL s = K at h hl
  obtain ⟨k, r⟩ := K
  match k, h with
  | 1, h =>
    simp only at h
    split at h
    · rename_i h0
      have hm := parse_may s h0
      have ht := text_back h0 (fun e => hq _ (hh _ e) rfl)
      rw [text_form hm] at ht
      have h1 := (may_plain _ hm).2
      injection h with h
      subst h
      have hlen := congrArg List.length ht
      rw [List.length_append, List.length_cons] at hlen
      exact ⟨by show (1 : Nat) ≤ 1000; omega, by show (parseL s).1.length ≤ _; simp only at h1; omega, by show (parseL s).2.1.length ≤ _; simp only at hlen; omega, by show ([] : List UInt8).length ≤ _; simp⟩
    · cases h
  | 2, h =>
    simp only at h hl
    split at h
    · injection h with h
      subst h
      exact ⟨by show (2 : Nat) ≤ 1000; omega, by simp, by simp, by show (lowL r).length ≤ _; rw [lowL_len]; omega⟩
    · cases h
  | 3, h =>
    simp only at h hl
    split at h
    · injection h with h
      subst h
      exact ⟨by show (3 : Nat) ≤ 1000; omega, by simp, by simp, by show (lowL r).length ≤ _; rw [lowL_len]; omega⟩
    · cases h
  | 4, h =>
    simp only at h hl
    split at h
    · injection h with h
      subst h
      exact ⟨by show (4 : Nat) ≤ 1000; omega, by simp, by simp, by show r.length ≤ _; omega⟩
    · cases h
  | 0, h => cases h
  | k + 5, h => cases h
theorem own_short (user : List UInt8) {t : Tg} (h : ShortT t) : ShortT (ownT user t) := by
  unfold ownT
  split
  · exact ⟨by show (3 : Nat) ≤ 1000; omega, h.2⟩
  · exact h
theorem targs_short : ∀ {ws : List (List UInt8)} {l : List Tg}, targsL ws = some l → (∀ w ∈ ws, (∀ b ∈ w, b ≠ 34) ∧ w.length ≤ 100000) → l.length = ws.length ∧ ∀ t ∈ l, ShortT t
  | [], l, h, _ => by
    injection h with h
    subst h
    exact ⟨rfl, fun t ht => by cases ht⟩
  | w :: ws, l, h, hq => by
    rw [targsL] at h
    split at h
    · cases h
    · rename_i t ht
      split at h
      · cases h
      · rename_i l' hl
        injection h with h
        subst h
        obtain ⟨h1, h2⟩ := targs_short hl (fun x hx => hq x (List.mem_cons_of_mem _ hx))
        refine ⟨by rw [List.length_cons, List.length_cons, h1], fun x hx => ?_⟩
        rcases List.mem_cons.1 hx with rfl | hx
        · exact targ_short ht (hq w List.mem_cons_self).1 (hq w List.mem_cons_self).2
        · exact h2 x hx
theorem said_short {s : List UInt8} {l : List Tg} (h : saidL s = some l) (hq : s.contains 34 = false) (hs : s.length ≤ 100000) : l.length ≤ 16 ∧ ∀ t ∈ l, ShortT t := by
  unfold saidL at h
  split at h
  · cases h
  · rename_i ws hws
    have h1 := vals_noq hws hq
    obtain ⟨h2, h3⟩ := vals_len ws hws
    obtain ⟨h4, h5⟩ := targs_short h (fun w hw => ⟨h1 w hw, Nat.le_trans (h3 w hw) hs⟩)
    exact ⟨by omega, h5⟩
theorem addAll_snoc (user : List UInt8) (out l : List Tg) (t : Tg) : addAll user out (l ++ [t]) = addT user (addAll user out l) t := by
  rw [addAll_app]
  rfl
theorem add_new (user : List UInt8) {out : List Tg} {t : Tg} (h : ownT user t ∉ out) : addT user out t = out ++ [ownT user t] := by
  unfold addT
  rw [if_neg]
  rw [List.contains_eq_mem]
  simpa using h
theorem add_old (user : List UInt8) {out : List Tg} {t : Tg} (h : ownT user t ∈ out) : addT user out t = out := by
  unfold addT
  rw [if_pos]
  rw [List.contains_eq_mem]
  simpa using h
theorem ent_printed : ∀ (l : List Sd) (st : Es), (∀ y ∈ st.1, printL y.2 = true ∧ y.2.contains 34 = false) → ∀ y ∈ (entGo l st).1, printL y.2 = true ∧ y.2.contains 34 = false
  | [], st, h => h
  | x :: r, st, h => by
    refine ent_printed r _ ?_
    rw [ent_ok]
    cases hok : entOk x with
    | false => exact h
    | true =>
      unfold entOk at hok
      simp only [Bool.and_eq_true, Bool.not_eq_true'] at hok
      rw [if_neg (by simp)]
      split
      · exact h
      · split
        · exact h
        · intro y hy
          rcases List.mem_append.1 hy with hy | hy
          · exact h y hy
          · obtain rfl := List.mem_singleton.1 hy
            exact ⟨hok.1.2, hok.2⟩
theorem ent_texts : ∀ (l : List Sd) (st : Es) (N : Nat), (∀ y ∈ st.1, y.2.length ≤ N) → (∀ x ∈ l, x.2.1.length ≤ N) → ∀ y ∈ (entGo l st).1, y.2.length ≤ N
  | [], st, N, h, _ => h
  | x :: r, st, N, h, hl => by
    refine ent_texts r _ N ?_ (fun x hx => hl x (List.mem_cons_of_mem _ hx))
    unfold entStep
    split
    · exact h
    · split
      · exact h
      · split
        · exact h
        · intro y hy
          rcases List.mem_append.1 hy with hy | hy
          · exact h y hy
          · obtain rfl := List.mem_singleton.1 hy
            exact hl x List.mem_cons_self
theorem ent_le : ∀ (l : List Sd) (st : Es), st.1.length ≤ 64 → (entGo l st).1.length ≤ 64
  | [], st, h => h
  | x :: r, st, h => by
    refine ent_le r _ ?_
    rcases ent_count st x with h1 | h1
    · exact h1
    · omega
theorem ent_faults : ∀ (l : List Sd) (st : Es), (entGo l st).2.length ≤ st.2.length + l.length
  | [], st => by simp [entGo]
  | x :: r, st => by
    have h1 := ent_faults r (entStep st x)
    have h2 : (entStep st x).2.length ≤ st.2.length + 1 := by
      unfold entStep
      split
      · simp
      · split
        · simp
        · split
          · simp
          · simp
    simp only [entGo, List.length_cons]
    omega
/-- what Parse's entries are like. -/
theorem lines_facts {s : List UInt8} (hs : s.length ≤ 8192) : (∀ y ∈ (linesL s).1, printL y.2 = true ∧ y.2.contains 34 = false ∧ y.2.length ≤ 8193) ∧ (linesL s).1.length ≤ 64 ∧ (linesL s).2.length ≤ 8193 := by
  have hLL : linesL s = entGo (logicalL s) ([], []) := by
    unfold linesL
    rw [if_neg (by omega)]
  rw [hLL]
  have h1 := ent_printed (logicalL s) ([], []) (fun y hy => by cases hy)
  have h2 := ent_texts (logicalL s) ([], []) 8193 (fun y hy => by cases hy) (fun x hx => by have := logical_len s x hx; omega)
  have h3 := ent_faults (logicalL s) ([], [])
  have h4 := logical_count s
  refine ⟨fun y hy => ⟨(h1 y hy).1, (h1 y hy).2, h2 y hy⟩, ent_le _ _ (Nat.zero_le _), ?_⟩
  simp only [List.length_nil] at h3
  omega
theorem fwd_step (user key : List UInt8) (r : List (List UInt8)) (many : Nat) (out : List Tg) : fwdGo user (key :: r) many out = match saidL key with
  | none => none
  | some l => if 16 < many + l.length then none else fwdGo user r (many + l.length) (addAll user out l) := rfl
theorem GRow.grown {α : Type} {k : Nat} {C : α → List Value} {w W : World} {row : Option Nat} {v : Value} {l : List α} (h : GRow k C w v l) (hg : w.grownBy W row) (hne : ∀ g, v.ownBlock = some g → some g ≠ row) : GRow k C W v l := by
  obtain ⟨p, cap, hv, h⟩ := h
  subst hv
  refine ⟨p, cap, rfl, ?_⟩
  rcases h with h | ⟨b, o, hp, hlt, h⟩
  · exact .inl h
  · subst hp
    refine .inr ⟨b, o, rfl, Nat.lt_of_lt_of_le hlt hg.size, fun i x hx j u hu => ?_⟩
    exact (World.cell?_of_block (w := w) (hg.block b hlt (hne b rfl))).trans (h i x hx j u hu)
end Go.Proofs.YtkoncmmbdlnmfaaGreatDoor
