/- The spots of a list: in order, within the text, each of them read of what stands there. -/
import Derived.Test.YtffngbjnbigipaaGreatDoorListL
namespace Go.Proofs.YtffngbjnbigipaaGreatDoor
open Go.RowKit Go.Lib
set_option linter.unusedSimpArgs false
set_option linter.unusedVariables false

/-- a spot of a text: its place, and what is read there. -/
structure SpG (l : List UInt8) (k : Nat) (x : Sp) : Prop where
  lt : x.1 < x.2.1
  le : x.2.1 ≤ k
  ok : (parseL (slc l x.1 x.2.1)).2.2 ≠ 5
  rd : x.2.2 = ((parseL (slc l x.1 x.2.1)).1, (parseL (slc l x.1 x.2.1)).2.1)
structure GoodSt (l : List UInt8) (k : Nat) (st : LSt) : Prop where
  each : ∀ x ∈ st.1, SpG l k x
  inorder : st.1.Pairwise fun x y => x.2.1 ≤ y.1
  short : st.2 = false → ∀ x ∈ st.1, (parseL (slc l x.1 x.2.1)).2.2 = 0
theorem GoodSt.mono {l : List UInt8} {k k' : Nat} {st : LSt} (h : GoodSt l k st) (hk : k ≤ k') : GoodSt l k' st :=
  ⟨fun x hx => ⟨(h.each x hx).lt, Nat.le_trans (h.each x hx).le hk, (h.each x hx).ok, (h.each x hx).rd⟩, h.inorder, h.short⟩
theorem addrE_good {l : List UInt8} {k a b n : Nat} {st st' : LSt} (hg : GoodSt l k st) (hka : k ≤ a) (h : addrE l a b st = some (n, st')) : GoodSt l n st' := by
  have hle := addrE_le h
  unfold addrE at h
  split at h
  · cases h
  · split at h
    · cases h
    · split at h
      · cases h
      · rename_i t ht
        split at h
        · cases h
        · rename_i h5
          injection h with h; injection h with h h'
          subst h; subst h'
          have hg2 := hg.mono (show k ≤ t by omega)
          refine ⟨fun x hx => ?_, ?_, fun hl x hx => ?_⟩
          · rcases List.mem_append.1 hx with hx | hx
            · exact hg2.each x hx
            · obtain rfl := List.mem_singleton.1 hx
              exact ⟨by show a < t; omega, Nat.le_refl _, h5, rfl⟩
          · rw [List.pairwise_append]
            refine ⟨hg.inorder, List.pairwise_singleton _ _, fun x hx y hy => ?_⟩
            obtain rfl := List.mem_singleton.1 hy
            have := (hg.each x hx).le
            show x.2.1 ≤ a
            omega
          · have hl2 := (Bool.or_eq_false_iff.1 hl)
            rcases List.mem_append.1 hx with hx | hx
            · exact hg.short hl2.1 x hx
            · obtain rfl := List.mem_singleton.1 hx
              have := hl2.2
              show (parseL (slc l a t)).2.2 = 0
              simpa using this
theorem closE_good {l : List UInt8} {k n : Nat} {st st' : LSt} (hk : k ≤ l.length) (hg : GoodSt l k st) (h : closE l k st = some (n, st')) : GoodSt l n st' := by
  have hle := closE_le hk h
  unfold closE at h
  split at h
  · cases h
  · split at h
    · injection h with h; injection h with h h'; subst h'; exact hg.mono hle.1
    · cases h
theorem GoodSt.longer {l : List UInt8} {k : Nat} {sp : List Sp} {g g' : Bool} (h : GoodSt l k (sp, g)) (hg : g' = false → g = false) : GoodSt l k (sp, g') := ⟨h.each, h.inorder, fun e => h.short (hg e)⟩
theorem routeE_long : ∀ (f : Nat) {l : List UInt8} {k n : Nat} {g g' : Bool}, routeE f l k g = some (n, g') → g' = false → g = false
  | 0, _, _, _, _, _, h, _ => by cases h
  | f + 1, l, k, n, g, g', h, hg => by
    rw [routeE] at h
    split at h
    · cases h
    · split at h
      · cases h
      · split at h
        · cases h
        · split at h
          · injection h with h; injection h with h h'; subst h'; exact (Bool.or_eq_false_iff.1 hg).1
          · split at h
            · have := routeE_long f h hg; exact (Bool.or_eq_false_iff.1 this).1
            · cases h
theorem rouE_long {l : List UInt8} {k n : Nat} {g g' : Bool} (h : rouE l k g = some (n, g')) (hg : g' = false) : g = false := by
  unfold rouE at h
  split at h
  · exact routeE_long _ h hg
  · injection h with h; injection h with h h'; subst h'; exact hg
theorem angleE_good {l : List UInt8} {k n : Nat} {st st' : LSt} (hk : k ≤ l.length) (hg : GoodSt l k st) (h : angleE l k st = some (n, st')) : GoodSt l n st' := by
  unfold angleE at h
  split at h
  · cases h
  · rename_i k1 hb
    have h1 := blankE_le hk hb
    split at h
    · cases h
    · rename_i k2 g2 hr
      have h2 := rouE_le h1.2 hr
      unfold angE2 at h
      split at h
      · cases h
      · rename_i k3 hb3
        have h3 := blankE_le h2.2 hb3
        split at h
        · cases h
        · rename_i e he
          split at h
          · cases h
          · rename_i k4 st4 ha
            have h4 := addrE_le ha
            have hg1 : GoodSt l k (st.1, g2) := GoodSt.longer (g := st.2) hg (rouE_long hr)
            exact closE_good h4.2.2 (addrE_good hg1 (by omega) ha) h
def InnerGood (l : List UInt8) (f : Nat → LSt → Option (Nat × LSt)) : Prop := ∀ k st n st', k ≤ l.length → GoodSt l k st → f k st = some (n, st') → GoodSt l n st'
theorem memE_good {inner : Nat → LSt → Option (Nat × LSt)} {within : Bool} {l : List UInt8} (hI : InnerLe l inner) (hN : InnerGood l inner) : InnerGood l (memE inner within l) := by
  intro k st n st' hk hg h
  unfold memE at h
  split at h
  · cases h
  · rename_i fr hb
    have h1 := blankE_le hk hb
    split at h
    · cases h
    · rename_i i m e hw
      have h2 := wordsE_le _ h1.2 (Nat.le_refl _) hw
      unfold lastE at h
      split at h
      · cases h
      · rename_i k2 st2 ha
        have h3 := afterE_le hI h2.2.1 ha
        split at h
        · cases h
        · rename_i k3 hb3
          have h4 := blankE_le h3.2 hb3
          injection h with h; injection h with h h'
          subst h; subst h'
          refine GoodSt.mono ?_ h4.1
          unfold afterE at ha
          split at ha
          · split at ha
            · exact addrE_good hg (by omega) ha
            · cases ha
          · split at ha
            · rename_i h5
              have := at_lt h5
              exact angleE_good (by omega) (hg.mono (by omega)) ha
            · split at ha
              · rename_i h5
                have := at_lt h5.1
                exact hN _ _ _ _ (by omega) (hg.mono (by omega)) ha
              · split at ha
                · cases ha
                · injection ha with ha; injection ha with ha ha'
                  subst ha; subst ha'
                  exact hg.mono (by omega)
theorem memsE_good {mem : Nat → LSt → Option (Nat × LSt)} {l : List UInt8} (hI : InnerLe l mem) (hN : InnerGood l mem) : ∀ (f : Nat), InnerGood l (fun k st => memsE mem l f k st)
  | 0 => by intro k st n st' _ _ h; cases h
  | f + 1 => by
    intro k st n st' hk hg h
    simp only [memsE] at h
    split at h
    · cases h
    · rename_i k2 st2 hm
      have h1 := hI _ _ _ _ hk hm
      have h2 := hN _ _ _ _ hk hg hm
      split at h
      · rename_i h3
        have := at_lt h3
        exact memsE_good hI hN f _ _ _ _ (by omega) (h2.mono (by omega)) h
      · injection h with h; injection h with h h'
        subst h; subst h'; exact h2
theorem none_good (l : List UInt8) : InnerGood l (fun _ _ => none) := by intro k st n st' _ _ h; cases h
theorem memT_good (l : List UInt8) : InnerGood l (memT l) := memE_good (none_le l) (none_good l)
theorem memsT_good (l : List UInt8) : InnerGood l (memsT l) := memsE_good (memT_le l) (memT_good l) _
theorem innerE_good (l : List UInt8) : InnerGood l (innerE l) := by
  intro k st n st' hk hg h
  unfold innerE at h
  split at h
  · cases h
  · rename_i k2 st2 hm
    have h1 := memsT_good l _ _ _ _ hk hg hm
    split at h
    · injection h with h; injection h with h h'
      subst h; subst h'; exact h1.mono (by omega)
    · cases h
theorem memF_good (l : List UInt8) : InnerGood l (memF l) := memE_good (innerE_le l) (innerE_good l)
theorem memsF_good (l : List UInt8) : InnerGood l (memsF l) := memsE_good (memF_le l) (memF_good l) _
/-- the spots of any text. -/
theorem findL_good (l : List UInt8) : GoodSt l l.length ((findL l).1, false) := by
  have nil : GoodSt l l.length (([], false) : LSt) := ⟨fun x hx => (by cases hx), List.Pairwise.nil, fun _ x hx => (by cases hx)⟩
  unfold findL
  split
  · exact nil
  · rename_i k sp long hm
    split
    · exact nil
    · rename_i hk
      split
      · exact nil
      · rename_i hl
        split
        · exact nil
        · have h := memsF_good l 0 ([], false) k (sp, long) (Nat.zero_le _) ⟨fun x hx => (by cases hx), List.Pairwise.nil, fun _ x hx => (by cases hx)⟩ hm
          obtain rfl : long = false := by simpa using hl
          rw [← Classical.not_not.1 hk]
          exact h
end Go.Proofs.YtffngbjnbigipaaGreatDoor
