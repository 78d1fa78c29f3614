/- A list of addresses has no more members than bytes. -/
import Derived.Test.YtffngbjnbigipaaGreatDoorListL
namespace Go.Proofs.YtffngbjnbigipaaGreatDoor
open Go.RowKit Go.Lib
set_option linter.unusedSimpArgs false
set_option linter.unusedVariables false

theorem addrE_len {l : List UInt8} {a b n : Nat} {st st' : LSt} (h : addrE l a b st = some (n, st')) : st'.1.length = st.1.length + 1 := by
  unfold addrE at h
  split at h
  · cases h
  · split at h
    · cases h
    · split at h
      · cases h
      · split at h
        · cases h
        · injection h with h; injection h with _ h; rw [← h]; simp
theorem closE_st {l : List UInt8} {k n : Nat} {st st' : LSt} (h : closE l k st = some (n, st')) : st' = st := by
  unfold closE at h
  split at h
  · cases h
  · split at h
    · injection h with h; injection h with _ h; exact h.symm
    · cases h
theorem angleE_len {l : List UInt8} {k n : Nat} {st st' : LSt} (h : angleE l k st = some (n, st')) : st'.1.length = st.1.length + 1 := by
  unfold angleE at h
  split at h
  · cases h
  · split at h
    · cases h
    · unfold angE2 at h
      split at h
      · cases h
      · split at h
        · cases h
        · split at h
          · cases h
          · rename_i k4 st4 ha
            have h1 := addrE_len ha
            have h2 := closE_st h
            subst h2
            exact h1
def InnerLen (l : List UInt8) (f : Nat → LSt → Option (Nat × LSt)) : Prop := ∀ k st n st', k ≤ l.length → st.1.length ≤ k → f k st = some (n, st') → st'.1.length ≤ n
theorem memE_len {inner : Nat → LSt → Option (Nat × LSt)} {within : Bool} {l : List UInt8} (hI : InnerLe l inner) (hN : InnerLen l inner) : InnerLen l (memE inner within l) := by
  intro k st n st' hk hst h
  unfold memE at h
  split at h
  · cases h
  · rename_i fr hb
    have h1 := blankE_le hk hb
    split at h
    · cases h
    · rename_i i m e hw
      have h2 := wordsE_le _ h1.2 (Nat.le_refl _) hw
      unfold lastE at h
      split at h
      · cases h
      · rename_i k2 st2 ha
        have h3 := afterE_le hI h2.2.1 ha
        split at h
        · cases h
        · rename_i k3 hb3
          have h4 := blankE_le h3.2 hb3
          injection h with h; injection h with h h'
          subst h; subst h'
          unfold afterE at ha
          split at ha
          · split at ha
            · have := addrE_len ha; have := addrE_le ha; omega
            · cases ha
          · split at ha
            · rename_i h5
              have := at_lt h5
              have := angleE_len ha; have := angleE_le (by omega) ha; omega
            · split at ha
              · rename_i h5
                have := at_lt h5.1
                have := hN _ _ _ _ (by omega) (by omega) ha; omega
              · split at ha
                · cases ha
                · injection ha with ha; injection ha with ha ha'
                  subst ha'; omega
theorem memsE_len {mem : Nat → LSt → Option (Nat × LSt)} {l : List UInt8} (hI : InnerLe l mem) (hN : InnerLen l mem) : ∀ (f : Nat), InnerLen l (fun k st => memsE mem l f k st)
  | 0 => by intro k st n st' _ _ h; cases h
  | f + 1 => by
    intro k st n st' hk hst h
    simp only [memsE] at h
    split at h
    · cases h
    · rename_i k2 st2 hm
      have h1 := hI _ _ _ _ hk hm
      have h2 := hN _ _ _ _ hk hst hm
      split at h
      · rename_i h3
        have := at_lt h3
        exact memsE_len hI hN f _ _ _ _ (by omega) (by omega) h
      · injection h with h; injection h with h h'
        subst h; subst h'; exact h2
theorem none_len (l : List UInt8) : InnerLen l (fun _ _ => none) := by intro k st n st' _ _ h; cases h
theorem memT_len (l : List UInt8) : InnerLen l (memT l) := memE_len (none_le l) (none_len l)
theorem memsT_len (l : List UInt8) : InnerLen l (memsT l) := memsE_len (memT_le l) (memT_len l) _
theorem innerE_len (l : List UInt8) : InnerLen l (innerE l) := by
  intro k st n st' hk hst h
  unfold innerE at h
  split at h
  · cases h
  · rename_i k2 st2 hm
    have h1 := memsT_len l _ _ _ _ hk hst hm
    split at h
    · injection h with h; injection h with h h'
      subst h; subst h'; omega
    · cases h
theorem memF_len (l : List UInt8) : InnerLen l (memF l) := memE_len (innerE_le l) (innerE_len l)
end Go.Proofs.YtffngbjnbigipaaGreatDoor
