/- A text's lines, what they say, and what a .forward tells: plain functions on lists of bytes; the plain law of ForwardOwn. Plain Lean. (Written in seat ZD's namespace; to be carried over by its name.) -/
import Derived.Test.YtkoncmmbdlnmfaaGreatDoorTarg
namespace Go.Proofs.YtkoncmmbdlnmfaaGreatDoor
open Go.RowKit Go.Lib
set_option linter.unusedSimpArgs false
set_option linter.unusedVariables false
set_option linter.unnecessarySimpa false
set_option maxRecDepth 100000

def blkB (c : UInt8) : Bool := c == 32 || c == 9
def trimF (l : List UInt8) : List UInt8 := l.dropWhile blkB
def trimW (l : List UInt8) : List UInt8 := (trimF (trimF l).reverse).reverse
def cutCR (l : List UInt8) : List UInt8 := if l.getLast? = some 13 then l.dropLast else l
/-- what a line says: its number, its text, whether it goes on nothing. -/
abbrev Sd := Nat × List UInt8 × Bool
def goOn (l : List Sd) (bare : List UInt8) : List Sd := match l.getLast? with
  | none => l
  | some x => l.dropLast ++ [(x.1, x.2.1 ++ 32 :: bare, x.2.2)]
def logStep (st : List Sd × Bool) (k : Nat) (line0 : List UInt8) : List Sd × Bool :=
  if trimW (cutCR line0) = [] ∨ (trimW (cutCR line0)).head? = some 35 then st
  else if (trimW (cutCR line0)).head? = (cutCR line0).head? then (st.1 ++ [(k + 1, trimW (cutCR line0), false)], true)
  else if st.2 = false then (st.1 ++ [(k + 1, trimW (cutCR line0), true)], st.2)
  else (goOn st.1 (trimW (cutCR line0)), st.2)
def logGo : List (List UInt8) → Nat → List Sd × Bool → List Sd × Bool
  | [], _, st => st
  | x :: r, k, st => logGo r (k + 1) (logStep st k x)
def logicalL (s : List UInt8) : List Sd := (logGo (pieces 10 s) 0 ([], false)).1
def printL (s : List UInt8) : Bool := s.all fun c => c == 9 || plainB c.toNat
/-- entries without values, faults: as far as the lines have been gone through. -/
abbrev Es := List (Nat × List UInt8) × List (Nat × Nat)
def entStep (st : Es) (x : Sd) : Es :=
  if x.2.2 = true ∨ printL x.2.1 = false ∨ x.2.1.contains 34 = true then (st.1, st.2 ++ [(x.1, 5)])
  else if 64 ≤ st.1.length then (st.1, st.2 ++ [(x.1, 7)])
  else if (st.1.any fun y => lowL y.2 == lowL x.2.1) = true then (st.1, st.2 ++ [(x.1, 9)])
  else (st.1 ++ [(x.1, x.2.1)], st.2)
def entGo : List Sd → Es → Es
  | [], st => st
  | x :: r, st => entGo r (entStep st x)
def linesL (s : List UInt8) : Es := if 8192 < s.length then ([], [(0, 3)]) else entGo (logicalL s) ([], [])
/-- the values of a text without quotes. -/
def valsL (s : List UInt8) : Option (List (List UInt8)) :=
  if ((pieces 44 s).map trimW).all (fun w => !w.isEmpty) = true then (if 16 < (pieces 44 s).length then none else some ((pieces 44 s).map trimW)) else none
def targsL : List (List UInt8) → Option (List Tg)
  | [] => some []
  | w :: r => match targL w with
    | none => none
    | some t => match targsL r with
      | none => none
      | some l => some (t :: l)
def saidL (s : List UInt8) : Option (List Tg) := match valsL s with
  | none => none
  | some ws => targsL ws
def ownT (user : List UInt8) (t : Tg) : Tg := if t.1 = 2 ∧ t.2.2 = lowL user then (3, t.2.1, t.2.2) else t
def addT (user : List UInt8) (out : List Tg) (t : Tg) : List Tg := if out.contains (ownT user t) = true then out else out ++ [ownT user t]
def addAll (user : List UInt8) : List Tg → List Tg → List Tg
  | out, [] => out
  | out, t :: l => addAll user (addT user out t) l
def fwdGo (user : List UInt8) : List (List UInt8) → Nat → List Tg → Option (List Tg)
  | [], _, out => some out
  | key :: r, many, out => match saidL key with
    | none => none
    | some l => if 16 < many + l.length then none else fwdGo user r (many + l.length) (addAll user out l)
/-- what a .forward tells a user: nothing, or these. -/
def fwdL (user s : List UInt8) : List Tg :=
  if ((linesL s).2.any fun f => f.2 != 9) = true then [] else match fwdGo user ((linesL s).1.map (·.2)) 0 [] with
    | none => []
    | some out => out

/-! no entry has a quote; so no value has -/
theorem ent_noq : ∀ (l : List Sd) (st : Es), (∀ y ∈ st.1, y.2.contains 34 = false) → ∀ y ∈ (entGo l st).1, y.2.contains 34 = false
  | [], st, h => h
  | x :: r, st, h => by
    refine ent_noq r _ ?_
    unfold entStep
    split
    · exact h
    · rename_i h1
      split
      · exact h
      · split
        · exact h
        · intro y hy
          rcases List.mem_append.1 hy with hy | hy
          · exact h y hy
          · obtain rfl := List.mem_singleton.1 hy
            cases hc : x.2.1.contains 34 with
            | false => rfl
            | true => exact absurd (.inr (.inr hc)) h1
theorem lines_noq (s : List UInt8) : ∀ y ∈ (linesL s).1, y.2.contains 34 = false := by
  unfold linesL
  split
  · intro y hy; cases hy
  · exact ent_noq _ _ (fun y hy => by cases hy)
theorem drop_mem {p : UInt8 → Bool} {l : List UInt8} {b : UInt8} (h : b ∈ l.dropWhile p) : b ∈ l := (List.dropWhile_sublist p).subset h
theorem trimW_mem {l : List UInt8} {b : UInt8} (h : b ∈ trimW l) : b ∈ l := by
  unfold trimW at h
  rw [List.mem_reverse] at h
  have := drop_mem h
  rw [List.mem_reverse] at this
  exact drop_mem this
theorem piece_in {c : UInt8} : ∀ {l p : List UInt8} {b : UInt8}, p ∈ pieces c l → b ∈ p → b ∈ l
  | [], p, b, hp, hb => by
    simp [pieces] at hp
    subst hp
    cases hb
  | x :: l, p, b, hp, hb => by
    rw [pieces] at hp
    split at hp
    · rcases List.mem_cons.1 hp with rfl | hp
      · cases hb
      · exact List.mem_cons_of_mem _ (piece_in hp hb)
    · split at hp
      · obtain rfl := List.mem_singleton.1 hp
        rcases List.mem_cons.1 hb with rfl | hb
        · exact List.mem_cons_self
        · cases hb
      · rename_i q r hq
        rcases List.mem_cons.1 hp with rfl | hp
        · rcases List.mem_cons.1 hb with rfl | hb
          · exact List.mem_cons_self
          · exact List.mem_cons_of_mem _ (piece_in (p := q) (by rw [hq]; exact List.mem_cons_self) hb)
        · exact List.mem_cons_of_mem _ (piece_in (p := p) (by rw [hq]; exact List.mem_cons_of_mem _ hp) hb)
theorem vals_noq {s : List UInt8} {ws : List (List UInt8)} (h : valsL s = some ws) (hs : s.contains 34 = false) : ∀ w ∈ ws, ∀ b ∈ w, b ≠ 34 := by
  unfold valsL at h
  split at h
  · split at h
    · cases h
    · injection h with h
      subst h
      intro w hw b hb e
      subst e
      obtain ⟨p, hp, rfl⟩ := List.mem_map.1 hw
      have := piece_in hp (trimW_mem hb)
      rw [List.contains_eq_mem] at hs
      simp at hs
      exact hs this
  · cases h
/-- what a target that counts for a user is like. -/
def GoodT (user : List UInt8) (t : Tg) : Prop := 1 ≤ t.1 ∧ t.1 ≤ 4 ∧ ¬ (t.1 = 2 ∧ t.2.2 = lowL user) ∧ targL (tellL t) = some t ∧ tellL t ≠ []
theorem targ_kind {s : List UInt8} {t : Tg} (h : targL s = some t) : 1 ≤ t.1 ∧ t.1 ≤ 4 ∧ (t.1 = 2 → t.2.1 = ([], [])) := by
  unfold targL at h
  split at h
  · split at h
    · injection h with h; subst h; exact ⟨by simp, by simp, fun e => by cases e⟩
    · cases h
  · split at h
    · injection h with h; subst h; exact ⟨by simp, by simp, fun _ => rfl⟩
    · cases h
  · split at h
    · injection h with h; subst h; exact ⟨by simp, by simp, fun e => by cases e⟩
    · cases h
  · split at h
    · injection h with h; subst h; exact ⟨by simp, by simp, fun e => by cases e⟩
    · cases h
  · cases h
theorem own_good (user : List UInt8) {s : List UInt8} {t : Tg} (h : targL s = some t) (hq : ∀ b ∈ s, b ≠ 34) : GoodT user (ownT user t) := by
  obtain ⟨k1, k2, k3⟩ := targ_kind h
  unfold ownT
  split
  · rename_i h2
    obtain ⟨k, ad, n⟩ := t
    simp only at h2 k3
    obtain ⟨rfl, hn⟩ := h2
    have := k3 rfl
    subst this
    obtain ⟨g1, g2⟩ := targ_own h
    exact ⟨by show 1 ≤ 3; omega, by show 3 ≤ 4; omega, fun e => (by cases e.1), g1, g2⟩
  · rename_i h2
    obtain ⟨g1, g2⟩ := targ_tell h hq
    exact ⟨k1, k2, h2, g1, g2⟩
theorem add_inv (user : List UInt8) : ∀ (l out : List Tg), (∀ t ∈ out, GoodT user t) → out.Nodup → (∀ t ∈ l, GoodT user (ownT user t)) → (∀ t ∈ addAll user out l, GoodT user t) ∧ (addAll user out l).Nodup ∧ (addAll user out l).length ≤ out.length + l.length
  | [], out, h1, h2, _ => ⟨h1, h2, by simp [addAll]⟩
  | t :: l, out, h1, h2, h3 => by
    have ht := h3 t List.mem_cons_self
    have hl := fun x hx => h3 x (List.mem_cons_of_mem _ hx)
    rw [addAll]
    unfold addT
    split
    · obtain ⟨a, b, c⟩ := add_inv user l out h1 h2 hl
      exact ⟨a, b, by simp only [List.length_cons]; omega⟩
    · rename_i hc
      have hn : ownT user t ∉ out := by
        intro hm
        apply hc
        rw [List.contains_eq_mem]
        simpa using hm
      obtain ⟨a, b, c⟩ := add_inv user l (out ++ [ownT user t]) (fun x hx => by
        rcases List.mem_append.1 hx with hx | hx
        · exact h1 x hx
        · obtain rfl := List.mem_singleton.1 hx
          exact ht) (by
        rw [List.nodup_append]
        exact ⟨h2, by simp, fun x hx y hy => by obtain rfl := List.mem_singleton.1 hy; rintro rfl; exact hn hx⟩) hl
      refine ⟨a, b, ?_⟩
      simp only [List.length_append, List.length_cons, List.length_nil] at c ⊢
      omega
theorem targs_good (user : List UInt8) : ∀ {ws : List (List UInt8)} {l : List Tg}, targsL ws = some l → (∀ w ∈ ws, ∀ b ∈ w, b ≠ 34) → ∀ t ∈ l, GoodT user (ownT user t)
  | [], l, h, _ => by
    injection h with h
    subst h
    intro t ht; cases ht
  | w :: ws, l, h, hq => by
    rw [targsL] at h
    split at h
    · cases h
    · rename_i t ht
      split at h
      · cases h
      · rename_i l' hl
        injection h with h
        subst h
        intro x hx
        rcases List.mem_cons.1 hx with rfl | hx
        · exact own_good user ht (hq w List.mem_cons_self)
        · exact targs_good user hl (fun w' hw' => hq w' (List.mem_cons_of_mem _ hw')) x hx
theorem fwdGo_inv (user : List UInt8) : ∀ (ks : List (List UInt8)) (many : Nat) (out res : List Tg), (∀ k ∈ ks, k.contains 34 = false) → (∀ t ∈ out, GoodT user t) → out.Nodup → out.length ≤ many → many ≤ 16 → fwdGo user ks many out = some res →
    (∀ t ∈ res, GoodT user t) ∧ res.Nodup ∧ res.length ≤ 16
  | [], many, out, res, _, h1, h2, h3, h4, h => by
    injection h with h
    subst h
    exact ⟨h1, h2, by omega⟩
  | key :: ks, many, out, res, hk, h1, h2, h3, h4, h => by
    rw [fwdGo] at h
    split at h
    · cases h
    · rename_i l hl
      split at h
      · cases h
      · rename_i hm
        unfold saidL at hl
        split at hl
        · cases hl
        · rename_i ws hws
          have hq := vals_noq hws (hk key List.mem_cons_self)
          have hg := targs_good user hl hq
          obtain ⟨a, b, c⟩ := add_inv user l out h1 h2 hg
          exact fwdGo_inv user ks _ _ _ (fun k hk' => hk k (List.mem_cons_of_mem _ hk')) a b (by omega) (by omega) h
/-- THE PLAIN LAW OF ForwardOwn. -/
theorem own_law (user s : List UInt8) : (∀ t ∈ fwdL user s, GoodT user t) ∧ (fwdL user s).Nodup ∧ (fwdL user s).length ≤ 16 := by
  unfold fwdL
  split
  · exact ⟨fun t ht => (by cases ht), List.nodup_nil, by simp⟩
  · split
    · exact ⟨fun t ht => (by cases ht), List.nodup_nil, by simp⟩
    · rename_i out hout
      exact fwdGo_inv user _ 0 [] out (fun k hk => by
        obtain ⟨y, hy, rfl⟩ := List.mem_map.1 hk
        exact lines_noq s y hy) (fun t ht => (by cases ht)) List.nodup_nil (Nat.zero_le _) (Nat.zero_le _) hout
end Go.Proofs.YtkoncmmbdlnmfaaGreatDoor
