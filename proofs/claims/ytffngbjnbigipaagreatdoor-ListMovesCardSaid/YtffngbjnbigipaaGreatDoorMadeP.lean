/- What the law's Made makes, as a plain function of bytes: its bytes are plain. -/
import Derived.Test.YtffngbjnbigipaaGreatDoorCutP
namespace Go.Proofs.YtffngbjnbigipaaGreatDoor
open Go.RowKit Go.Lib
set_option linter.unusedSimpArgs false
set_option linter.unusedVariables false
set_option linter.unnecessarySimpa false
set_option maxRecDepth 100000

def locB (b : UInt8) : UInt8 := 32 + b % 95
def tabM : List UInt8 := [97, 98, 99, 100, 101, 65, 66, 67, 68, 69, 48, 49, 57, 45]
def namB (k : Nat) (b : UInt8) : UInt8 := if k % 9 = 8 then 46 else tabM.getD (b.toNat % 14) 0
def locL (x : List UInt8) : List UInt8 := if x.take 64 = [] then [97] else (x.take 64).map locB
def namL (y : List UInt8) : List UInt8 := (y.take 60).mapIdx namB
def rep1 (y : List UInt8) : List UInt8 := Lib.replaceAll (namL y ++ [46]) [45, 46] [120, 46]
def rep2 (y : List UInt8) : List UInt8 := Lib.replaceAll (rep1 y) [46, 45] [46, 121]
def rep3 (y : List UInt8) : List UInt8 := Lib.replaceAll (rep2 y) [46, 46] [46, 122, 46]
def domM (y : List UInt8) : List UInt8 := 100 :: Lib.trimSuffix (rep3 y) [46]

theorem replK_len (old new : List UInt8) : ∀ (k : Nat) (s : List UInt8), (Lib.replaceK old new k s).length ≤ s.length + k * new.length
  | 0, s => by simp [Lib.replaceK]
  | k + 1, s => by
    rw [Lib.replaceK]
    split
    · omega
    · have ih := replK_len old new k (s.drop ((Lib.index s old).toNat + old.length))
      have hm : (k + 1) * new.length = k * new.length + new.length := Nat.succ_mul _ _
      simp only [List.length_append, List.length_take, List.length_drop] at ih ⊢
      omega
theorem replK_all (p : UInt8 → Prop) (old new : List UInt8) (hn : ∀ b ∈ new, p b) : ∀ (k : Nat) (s : List UInt8), (∀ b ∈ s, p b) → ∀ b ∈ Lib.replaceK old new k s, p b
  | 0, s, hs => by simpa [Lib.replaceK] using hs
  | k + 1, s, hs => by
    rw [Lib.replaceK]
    split
    · exact hs
    · intro b hb
      rcases List.mem_append.1 hb with hb | hb
      · rcases List.mem_append.1 hb with hb | hb
        · exact hs b (List.mem_of_mem_take hb)
        · exact hn b hb
      · exact replK_all p old new hn k _ (fun b hb => hs b (List.mem_of_mem_drop hb)) b hb
theorem repl_all (p : UInt8 → Prop) {s old new : List UInt8} (hs : ∀ b ∈ s, p b) (hn : ∀ b ∈ new, p b) : ∀ b ∈ Lib.replaceAll s old new, p b := by
  unfold Lib.replaceAll Lib.replace
  split
  · exact hs
  · exact replK_all p old new hn _ s hs
theorem count_le (s old : List UInt8) (h : 1 ≤ old.length) : Lib.count s old ≤ s.length := by
  have := Lib.countB_le ⟨old.toArray⟩ h s.length ⟨s.toArray⟩ (Nat.le_refl _)
  exact this
theorem repl_len {s old new : List UInt8} (h : 1 ≤ old.length) : (Lib.replaceAll s old new).length ≤ s.length + s.length * new.length := by
  unfold Lib.replaceAll Lib.replace
  split
  · omega
  · refine Nat.le_trans (replK_len _ _ _ _) ?_
    have hc := count_le s old h
    have : Lib.replaceNum s old (-1) ≤ s.length := by
      unfold Lib.replaceNum
      rw [if_pos (Or.inl (by decide))]
      exact hc
    exact Nat.add_le_add_left (Nat.mul_le_mul_right _ this) _
theorem nam_len (y : List UInt8) : (namL y).length ≤ 60 := by unfold namL; simp; omega
theorem rep1_len (y : List UInt8) : (rep1 y).length ≤ 183 := by
  have h1 := repl_len (s := namL y ++ [46]) (old := [45, 46]) (new := [120, 46]) (by decide)
  have h2 := nam_len y
  unfold rep1
  simp only [List.length_append, List.length_cons, List.length_nil] at h1
  omega
theorem rep2_len (y : List UInt8) : (rep2 y).length ≤ 549 := by
  have h1 := repl_len (s := rep1 y) (old := [46, 45]) (new := [46, 121]) (by decide)
  have h2 := rep1_len y
  unfold rep2
  simp only [List.length_append, List.length_cons, List.length_nil] at h1
  omega
theorem rep3_len (y : List UInt8) : (rep3 y).length ≤ 2196 := by
  have h1 := repl_len (s := rep2 y) (old := [46, 46]) (new := [46, 122, 46]) (by decide)
  have h2 := rep2_len y
  unfold rep3
  simp only [List.length_append, List.length_cons, List.length_nil] at h1
  omega
theorem trim_mem (l s : List UInt8) : ∀ b ∈ Lib.trimSuffix l s, b ∈ l := by
  unfold Lib.trimSuffix
  intro b hb
  split at hb
  · exact List.mem_of_mem_take hb
  · exact hb
theorem trim_len (l s : List UInt8) : (Lib.trimSuffix l s).length ≤ l.length := by
  unfold Lib.trimSuffix
  split
  · simp
  · exact Nat.le_refl _
abbrev asc (b : UInt8) : Prop := b.toNat < 128
theorem nam_asc (y : List UInt8) : ∀ b ∈ namL y, asc b := by
  unfold namL
  intro b hb
  obtain ⟨i, h, rfl⟩ := List.mem_mapIdx.1 hb
  unfold namB asc
  split
  · decide
  · have ht : ∀ j, ((tabM.getD j 0).toNat) < 128 := fun j => by
      by_cases hj : j < 14
      · have : ∀ j < 14, (tabM.getD j 0).toNat < 128 := by decide
        exact this j hj
      · rw [List.getD_eq_getElem?_getD, List.getElem?_eq_none (by show 14 ≤ j; omega)]
        decide
    exact ht _
theorem rep3_asc (y : List UInt8) : ∀ b ∈ rep3 y, asc b := by
  unfold rep3 rep2 rep1
  refine repl_all asc (repl_all asc (repl_all asc ?_ (by decide)) (by decide)) (by decide)
  intro b hb
  rcases List.mem_append.1 hb with hb | hb
  · exact nam_asc y b hb
  · obtain rfl := List.mem_singleton.1 hb
    decide
theorem dom_asc (y : List UInt8) : ∀ b ∈ domM y, asc b := by
  intro b hb
  rcases List.mem_cons.1 hb with rfl | hb
  · decide
  · exact rep3_asc y b (trim_mem _ _ b hb)
theorem dom_len (y : List UInt8) : (domM y).length ≤ 2197 := by
  unfold domM
  have h1 := trim_len (rep3 y) [46]
  have h2 := rep3_len y
  simp only [List.length_cons]
  omega
theorem loc_len (x : List UInt8) : (locL x).length ≤ 64 := by
  unfold locL
  split
  · decide
  · simp; omega
end Go.Proofs.YtffngbjnbigipaaGreatDoor
