/- A list of addresses moved to another place of a text: the same members, at other places; how much is enough for the loops. -/
import Derived.Test.YtffngbjnbigipaaDoorListL
namespace Go.Proofs.YtffngbjnbigipaaDoor
open Go.RowKit Go.Lib
set_option linter.unusedSimpArgs false
set_option linter.unusedVariables false

/-! the loops' bounds: enough is enough -/
theorem routeE_fuel : ∀ (f f' : Nat) (l : List UInt8) (k : Nat) (g : Bool), l.length - k < f → l.length - k < f' → routeE f l k g = routeE f' l k g
  | 0, _, _, _, _, h, _ => by omega
  | _, 0, _, _, _, _, h => by omega
  | f + 1, f' + 1, l, k, g, h, h' => by
    rw [routeE, routeE]
    split
    · rfl
    · rename_i h2
      have hk : k < l.length := at_lt (Classical.not_not.1 h2)
      split
      · rfl
      · rename_i t ht
        have := domE_le (by omega) ht
        split
        · rfl
        · split
          · rfl
          · split
            · exact routeE_fuel f f' l _ _ (by omega) (by omega)
            · rfl
theorem wordsE_fuel : ∀ (f f' : Nat) (l : List UInt8) (i m e : Nat), i ≤ l.length → l.length - i < f → l.length - i < f' → wordsE f l i m e = wordsE f' l i m e
  | 0, _, _, _, _, _, _, h, _ => by omega
  | _, 0, _, _, _, _, _, _, h => by omega
  | f + 1, f' + 1, l, i, m, e, hi, h, h' => by
    rw [wordsE, wordsE]
    split
    · rfl
    · rename_i k hk
      have h1 := wordE_le hi hk
      split
      · rfl
      · split
        · rfl
        · rename_i j hj
          have h2 := blankE_le h1.2 hj
          exact wordsE_fuel f f' l _ _ _ h2.2 (by omega) (by omega)
theorem memsE_fuel (mem : Nat → LSt → Option (Nat × LSt)) (l : List UInt8) (hI : InnerLe l mem) : ∀ (f f' : Nat) (k : Nat) (st : LSt), k ≤ l.length → l.length - k < f → l.length - k < f' → memsE mem l f k st = memsE mem l f' k st
  | 0, _, _, _, _, h, _ => by omega
  | _, 0, _, _, _, _, h => by omega
  | f + 1, f' + 1, k, st, hk, h, h' => by
    rw [memsE, memsE]
    split
    · rfl
    · rename_i k2 st2 hm
      have h1 := hI _ _ _ _ hk hm
      split
      · rename_i h3
        have := at_lt h3
        exact memsE_fuel mem l hI f f' _ _ (by omega) (by omega) (by omega)
      · rfl

/-! moved -/
theorem drop_sh (p l : List UInt8) (k : Nat) : (p ++ l).drop (p.length + k) = l.drop k := by
  rw [List.drop_append]; simp
theorem get_sh (p l : List UInt8) (k : Nat) : (p ++ l)[p.length + k]? = l[k]? := by
  rw [List.getElem?_append_right (by omega)]; simp
theorem slc_sh (p l : List UInt8) (a b : Nat) : slc (p ++ l) (p.length + a) (p.length + b) = slc l a b := by
  unfold slc
  rw [List.take_append, List.take_of_length_le (by omega), show p.length + b - p.length = b by omega, drop_sh]
def shSp (n : Nat) (x : Sp) : Sp := (n + x.1, n + x.2.1, x.2.2)
def shT (n : Nat) (pre : List Sp) (g : Bool) (st : LSt) : LSt := (pre ++ st.1.map (shSp n), g || st.2)
def shR (n : Nat) (pre : List Sp) (g : Bool) : Option (Nat × LSt) → Option (Nat × LSt) := Option.map fun x => (n + x.1, shT n pre g x.2)
theorem domE_sh (p l : List UInt8) (k : Nat) : domE (p ++ l) (p.length + k) = (domE l k).map (p.length + ·) := by
  unfold domE
  rw [get_sh, drop_sh, List.length_append]
  split
  · by_cases h : k + tw notEnd (l.drop k) < l.length
    · rw [if_pos (by omega), if_pos h]; simp; omega
    · rw [if_neg (by omega), if_neg h]; rfl
  · split
    · rfl
    · simp; omega
theorem wordE_sh (p l : List UInt8) (k : Nat) : wordE (p ++ l) (p.length + k) = (wordE l k).map (p.length + ·) := by
  unfold wordE
  rw [get_sh, drop_sh]
  split
  · split
    · simp; omega
    · rfl
  · simp; omega
theorem blankE_sh (p l : List UInt8) (k : Nat) : blankE (p ++ l) (p.length + k) = (blankE l k).map (p.length + ·) := by
  unfold blankE
  rw [drop_sh]
  split
  · simp; omega
  · rfl
theorem addrE_sh (p l : List UInt8) (pre : List Sp) (g : Bool) (a b : Nat) (st : LSt) : addrE (p ++ l) (p.length + a) (p.length + b) (shT p.length pre g st) = shR p.length pre g (addrE l a b st) := by
  unfold addrE
  rw [get_sh, show p.length + b + 1 = p.length + (b + 1) by omega, domE_sh]
  by_cases h1 : b ≤ a
  · rw [if_pos (by omega), if_pos h1]; rfl
  · rw [if_neg (by omega), if_neg h1]
    split
    · rfl
    · cases hd : domE l (b + 1) with
      | none => rfl
      | some t =>
        simp only [Option.map_some]
        rw [slc_sh]
        split
        · rfl
        · simp [shR, shT, shSp, Bool.or_assoc]
theorem routeE_sh (p l : List UInt8) (g : Bool) : ∀ (f k : Nat) (h : Bool), routeE f (p ++ l) (p.length + k) (g || h) = (routeE f l k h).map fun x => (p.length + x.1, g || x.2)
  | 0, _, _ => rfl
  | f + 1, k, h => by
    rw [routeE, routeE, get_sh, show p.length + k + 1 = p.length + (k + 1) by omega, domE_sh]
    split
    · rfl
    · cases hd : domE l (k + 1) with
      | none => rfl
      | some t =>
        simp only [Option.map_some]
        rw [slc_sh, get_sh]
        split
        · rfl
        · split
          · simp [Bool.or_assoc]; omega
          · split
            · rw [show p.length + t + 1 = p.length + (t + 1) by omega, Bool.or_assoc]
              exact routeE_sh p l g f (t + 1) _
            · rfl
theorem rouE_sh (p l : List UInt8) (g : Bool) (k : Nat) (hk : k ≤ l.length) (h : Bool) : rouE (p ++ l) (p.length + k) (g || h) = (rouE l k h).map fun x => (p.length + x.1, g || x.2) := by
  unfold rouE
  rw [get_sh]
  split
  · rw [routeE_fuel ((p ++ l).length + 1) (l.length + 1) (p ++ l) (p.length + k) _ (by simp; omega) (by simp; omega), routeE_sh]
  · rfl
theorem closE_sh (p l : List UInt8) (pre : List Sp) (g : Bool) (k : Nat) (st : LSt) : closE (p ++ l) (p.length + k) (shT p.length pre g st) = shR p.length pre g (closE l k st) := by
  unfold closE
  rw [blankE_sh]
  cases hb : blankE l k with
  | none => rfl
  | some k' =>
    simp only [Option.map_some]
    rw [get_sh]
    split
    · simp [shR]; omega
    · rfl
theorem angE2_sh (p l : List UInt8) (pre : List Sp) (g : Bool) (k : Nat) (st : LSt) : angE2 (p ++ l) (p.length + k) (shT p.length pre g st) = shR p.length pre g (angE2 l k st) := by
  unfold angE2
  rw [blankE_sh]
  cases hb : blankE l k with
  | none => rfl
  | some k3 =>
    simp only [Option.map_some]
    rw [wordE_sh]
    cases hw : wordE l k3 with
    | none => rfl
    | some e =>
      simp only [Option.map_some]
      rw [addrE_sh]
      cases ha : addrE l k3 e st with
      | none => rfl
      | some x =>
        obtain ⟨k4, st4⟩ := x
        exact closE_sh p l pre g k4 st4
theorem angleE_sh (p l : List UInt8) (pre : List Sp) (g : Bool) (k : Nat) (hk : k ≤ l.length) (st : LSt) : angleE (p ++ l) (p.length + k) (shT p.length pre g st) = shR p.length pre g (angleE l k st) := by
  unfold angleE
  rw [blankE_sh]
  cases hb : blankE l k with
  | none => rfl
  | some k1 =>
    simp only [Option.map_some]
    have h1 := blankE_le hk hb
    rw [show (shT p.length pre g st).2 = (g || st.2) from rfl, rouE_sh p l g k1 h1.2]
    cases hr : rouE l k1 st.2 with
    | none => rfl
    | some x =>
      obtain ⟨k2, long⟩ := x
      exact angE2_sh p l pre g k2 (st.1, long)
theorem wordsE_sh (p l : List UInt8) : ∀ (f i m e : Nat), wordsE f (p ++ l) (p.length + i) m (p.length + e) = (wordsE f l i m e).map fun x => (p.length + x.1, x.2.1, p.length + x.2.2)
  | 0, _, _, _ => rfl
  | f + 1, i, m, e => by
    rw [wordsE, wordsE, wordE_sh]
    cases hw : wordE l i with
    | none => rfl
    | some k =>
      simp only [Option.map_some]
      by_cases h : k = i
      · rw [if_pos (by omega), if_pos h]; rfl
      · rw [if_neg (by omega), if_neg h, blankE_sh]
        cases hb : blankE l k with
        | none => rfl
        | some j => exact wordsE_sh p l f j (m + 1) k
def InnerSh (p l : List UInt8) (pre : List Sp) (g : Bool) (i1 i2 : Nat → LSt → Option (Nat × LSt)) : Prop := ∀ k st, k ≤ l.length → i1 (p.length + k) (shT p.length pre g st) = shR p.length pre g (i2 k st)
theorem afterE_sh (p l : List UInt8) (pre : List Sp) (g : Bool) {i1 i2 : Nat → LSt → Option (Nat × LSt)} (hI : InnerSh p l pre g i1 i2) (within : Bool) (fr i m e : Nat) (st : LSt) :
    afterE i1 within (p ++ l) (p.length + fr) (p.length + i) m (p.length + e) (shT p.length pre g st) = shR p.length pre g (afterE i2 within l fr i m e st) := by
  unfold afterE
  rw [get_sh]
  split
  · by_cases h : m = 1 ∧ e = i
    · rw [if_pos h, if_pos ⟨h.1, by rw [h.2]⟩]; exact addrE_sh p l pre g fr i st
    · rw [if_neg h, if_neg (fun hh => h ⟨hh.1, by omega⟩)]; rfl
  · split
    · rename_i h3
      have := at_lt h3
      exact angleE_sh p l pre g (i + 1) (by omega) st
    · split
      · rename_i h3
        have := at_lt h3.1
        exact hI (i + 1) st (by omega)
      · split
        · rfl
        · rfl
theorem lastE_sh (p l : List UInt8) (pre : List Sp) (g : Bool) (x : Option (Nat × LSt)) : lastE (p ++ l) (shR p.length pre g x) = shR p.length pre g (lastE l x) := by
  cases x with
  | none => rfl
  | some x =>
    obtain ⟨k, st⟩ := x
    simp only [shR, Option.map_some, lastE]
    rw [blankE_sh]
    cases hb : blankE l k <;> rfl
theorem memE_sh (p l : List UInt8) (pre : List Sp) (g : Bool) {i1 i2 : Nat → LSt → Option (Nat × LSt)} (hI : InnerSh p l pre g i1 i2) (within : Bool) : InnerSh p l pre g (memE i1 within (p ++ l)) (memE i2 within l) := by
  intro k st hk
  unfold memE
  rw [blankE_sh]
  cases hb : blankE l k with
  | none => rfl
  | some fr =>
    have h1 := blankE_le hk hb
    simp only [Option.map_some]
    rw [wordsE_fuel ((p ++ l).length + 1) (l.length + 1) (p ++ l) (p.length + fr) _ _ (by simp; omega) (by simp; omega) (by simp; omega), wordsE_sh]
    cases hw : wordsE (l.length + 1) l fr 0 fr with
    | none => rfl
    | some x =>
      obtain ⟨i, m, e⟩ := x
      simp only [Option.map_some]
      rw [afterE_sh p l pre g hI, lastE_sh]
theorem memsE_sh (p l : List UInt8) (pre : List Sp) (g : Bool) {i1 i2 : Nat → LSt → Option (Nat × LSt)} (hL : InnerLe l i2) (hI : InnerSh p l pre g i1 i2) : ∀ (f k : Nat) (st : LSt), k ≤ l.length →
    memsE i1 (p ++ l) f (p.length + k) (shT p.length pre g st) = shR p.length pre g (memsE i2 l f k st)
  | 0, _, _, _ => rfl
  | f + 1, k, st, hk => by
    rw [memsE, memsE, hI k st hk]
    cases hm : i2 k st with
    | none => rfl
    | some x =>
      obtain ⟨k2, st2⟩ := x
      have h1 := hL _ _ _ _ hk hm
      simp only [shR, Option.map_some]
      rw [get_sh]
      split
      · rename_i h3
        have := at_lt h3
        rw [show p.length + k2 + 1 = p.length + (k2 + 1) by omega]
        exact memsE_sh p l pre g hL hI f (k2 + 1) st2 (by omega)
      · rfl
theorem none_sh (p l : List UInt8) (pre : List Sp) (g : Bool) : InnerSh p l pre g (fun _ _ => none) (fun _ _ => none) := fun _ _ _ => rfl
theorem memT_sh (p l : List UInt8) (pre : List Sp) (g : Bool) : InnerSh p l pre g (memT (p ++ l)) (memT l) := memE_sh p l pre g (none_sh p l pre g) true
theorem memsT_sh (p l : List UInt8) (pre : List Sp) (g : Bool) : InnerSh p l pre g (memsT (p ++ l)) (memsT l) := by
  intro k st hk
  unfold memsT
  rw [memsE_fuel _ (p ++ l) (memT_le (p ++ l)) ((p ++ l).length + 1) (l.length + 1) _ _ (by simp; omega) (by simp; omega) (by simp; omega)]
  exact memsE_sh p l pre g (memT_le l) (memT_sh p l pre g) _ k st hk
theorem innerE_sh (p l : List UInt8) (pre : List Sp) (g : Bool) : InnerSh p l pre g (innerE (p ++ l)) (innerE l) := by
  intro k st hk
  unfold innerE
  rw [memsT_sh p l pre g k st hk]
  cases hm : memsT l k st with
  | none => rfl
  | some x =>
    obtain ⟨k2, st2⟩ := x
    simp only [shR, Option.map_some]
    rw [get_sh]
    split <;> rfl
theorem memF_sh (p l : List UInt8) (pre : List Sp) (g : Bool) : InnerSh p l pre g (memF (p ++ l)) (memF l) := memE_sh p l pre g (innerE_sh p l pre g) false
theorem memsF_sh (p l : List UInt8) (pre : List Sp) (g : Bool) : InnerSh p l pre g (memsF (p ++ l)) (memsF l) := by
  intro k st hk
  unfold memsF
  rw [memsE_fuel _ (p ++ l) (memF_le (p ++ l)) ((p ++ l).length + 1) (l.length + 1) _ _ (by simp; omega) (by simp; omega) (by simp; omega)]
  exact memsE_sh p l pre g (memF_le l) (memF_sh p l pre g) _ k st hk
end Go.Proofs.YtffngbjnbigipaaDoor
