/- list's reader: what its five variables hold, and its methods next and fail. -/
import Derived.Test.YtffngbjnbigipaaGreatDoorBlank
import Derived.Test.YtffngbjnbigipaaGreatDoorNorm
import Derived.Deep.RegionHeld3
namespace Go.Proofs.YtffngbjnbigipaaGreatDoor
open Go.RowKit Go.Lib
set_option linter.unusedSimpArgs false
set_option linter.unusedVariables false
set_option linter.unnecessarySimpa false
set_option maxRecDepth 100000

/-- the reader at block B: its text, its place, its spots, whether it is wrong, whether one was too long. -/
structure RS (B : Nat) (s : ByteArray) (k : Nat) (v : Value) (wrong long : Bool) (W : World) : Prop where
  lt : B < W.heap.size
  c0 : W.cell? ⟨B, 0, none⟩ = some (.string s)
  c1 : W.cell? ⟨B, 1, none⟩ = some (.int .i64 (k : Int))
  c2 : W.cell? ⟨B, 2, none⟩ = some v
  c3 : W.cell? ⟨B, 3, none⟩ = some (.bool wrong)
  c4 : W.cell? ⟨B, 4, none⟩ = some (.bool long)
  fr : ∀ o, o < 5 → W.frozen? ⟨B, o, none⟩ = false
theorem RS.below {B : Nat} {s : ByteArray} {k : Nat} {v : Value} {wrong long : Bool} {w W : World} (h : RS B s k v wrong long w) (hb : Below w.heap.size w W) : RS B s k v wrong long W :=
  ⟨Nat.lt_of_lt_of_le h.lt hb.size, (hb.cell (p := ⟨B, 0, none⟩) h.lt).trans h.c0, (hb.cell (p := ⟨B, 1, none⟩) h.lt).trans h.c1, (hb.cell (p := ⟨B, 2, none⟩) h.lt).trans h.c2,
   (hb.cell (p := ⟨B, 3, none⟩) h.lt).trans h.c3, (hb.cell (p := ⟨B, 4, none⟩) h.lt).trans h.c4, fun o ho => (hb.frozen (p := ⟨B, o, none⟩) h.lt).trans (h.fr o ho)⟩
theorem cell_far (W : World) (B o o' : Nat) (v : Value) (hne : o ≠ o') : (W.setCell ⟨B, o, none⟩ v).cell? ⟨B, o', none⟩ = W.cell? ⟨B, o', none⟩ :=
  World.cell?_setCell_other _ _ _ _ (by intro e; injection e with _ e2 _; exact hne e2)
theorem RS.at_ {B : Nat} {s : ByteArray} {k : Nat} {v : Value} {wrong long : Bool} {W : World} (h : RS B s k v wrong long W) (k' : Nat) : RS B s k' v wrong long (W.setCell ⟨B, 1, none⟩ (.int .i64 (k' : Int))) :=
  ⟨by simpa [World.setCell] using h.lt, by rw [cell_far _ _ _ _ _ (by decide)]; exact h.c0, set_same _ _ _ _ h.c1, by rw [cell_far _ _ _ _ _ (by decide)]; exact h.c2,
   by rw [cell_far _ _ _ _ _ (by decide)]; exact h.c3, by rw [cell_far _ _ _ _ _ (by decide)]; exact h.c4, fun o ho => by rw [World.frozen?_setCell]; exact h.fr o ho⟩
theorem RS.fail_ {B : Nat} {s : ByteArray} {k : Nat} {v : Value} {wrong long : Bool} {W : World} (h : RS B s k v wrong long W) : RS B s k v true long (W.setCell ⟨B, 3, none⟩ (.bool true)) :=
  ⟨by simpa [World.setCell] using h.lt, by rw [cell_far _ _ _ _ _ (by decide)]; exact h.c0, by rw [cell_far _ _ _ _ _ (by decide)]; exact h.c1, by rw [cell_far _ _ _ _ _ (by decide)]; exact h.c2,
   set_same _ _ _ _ h.c3, by rw [cell_far _ _ _ _ _ (by decide)]; exact h.c4, fun o ho => by rw [World.frozen?_setCell]; exact h.fr o ho⟩
/-- nothing old has turned but block B. -/
structure But (B : Nat) (w w' : World) : Prop where
  os : w'.os = w.os
  tape : w'.tape = w.tape
  output : w'.output = w.output
  size : w.heap.size ≤ w'.heap.size
  block : ∀ k, k < w.heap.size → k ≠ B → w'.heap[k]? = w.heap[k]?
theorem But.refl (B : Nat) (w : World) : But B w w := ⟨rfl, rfl, rfl, Nat.le_refl _, fun _ _ _ => rfl⟩
theorem But.trans {B : Nat} {a b c : World} (h : But B a b) (k : But B b c) : But B a c :=
  ⟨k.os.trans h.os, k.tape.trans h.tape, k.output.trans h.output, Nat.le_trans h.size k.size, fun i hi hn => (k.block i (Nat.lt_of_lt_of_le hi h.size) hn).trans (h.block i hi hn)⟩
theorem But.of_below {B : Nat} {a b : World} (h : Below a.heap.size a b) : But B a b := ⟨h.os, h.tape, h.output, h.size, fun k hk _ => h.block k hk⟩
theorem But.set {B : Nat} {a w : World} (h : But B a w) (o : Nat) (v : Value) : But B a (w.setCell ⟨B, o, none⟩ v) :=
  h.trans ⟨rfl, rfl, rfl, by simp [World.setCell], fun k _ hn => Below.heap_setCell _ _ _ _ hn⟩
theorem But.low {B : Nat} {a w : World} (h : But B a w) (hB : B ≤ a.heap.size) : Below B a w := ⟨h.os, h.tape, h.output, h.size, fun k hk => h.block k (Nat.lt_of_lt_of_le hk hB) (Nat.ne_of_lt hk)⟩

set_option maxHeartbeats 1000000 in
theorem next_in (B : Nat) (s : ByteArray) (k : Nat) (v : Value) (long : Bool) (w : World) (h : RS B s k v false long w) (hk : k < s.size) (hs : s.size ≤ 1000000000000) :
    Calls Tryz.prog 117 #[.pointer (some ⟨B, 0, none⟩)] w fun e w' => e = .returned (.int .u8 (s[k].toNat : Int)) ∧ Below w.heap.size w w' := by
  obtain ⟨-, c0, c1, c2, c3, c4, -⟩ := h
  have hk0 : (0 : Int) ≤ (k : Int) := by omega
  have hk1 : (k : Int) < (s.size : Int) := by omega
  have hk2 : ¬ (s.size : Int) ≤ (k : Int) := by omega
  go_enter Tryz.func117, Tryz.ntmps117
  go_wp2_with fail
  go_quiet (fail)
  go_wp2_with fail
  go_quiet (fail)
  go_wp2
  go_ret
  exact ⟨by simp, (drewN_below w _).trans ((drewN_below _ _).mono (drewN_below w _).size)⟩
set_option maxHeartbeats 1000000 in
/-- the next byte of a reader that is wrong: 0. -/
theorem next_wrong (B : Nat) (s : ByteArray) (k : Nat) (v : Value) (long : Bool) (w : World) (h : RS B s k v true long w) :
    Calls Tryz.prog 117 #[.pointer (some ⟨B, 0, none⟩)] w fun e w' => e = .returned (.int .u8 0) ∧ Below w.heap.size w w' := by
  obtain ⟨-, c0, c1, c2, c3, c4, -⟩ := h
  go_enter Tryz.func117, Tryz.ntmps117
  go_wp2_with fail
  refine wp_region_held_drew (S := (fun W => W.cell? ⟨B, 3, none⟩ = some (.bool true))) (by kernel_rfl) c3 (fun hHeld => ?_)
  refine wpAnyH_take (i := 0) (oi := _) (v := .pointer (some ⟨B, 0, none⟩)) rfl (by kernel_rfl) (by kernel_rfl) (by kernel_rfl) (fun _ _ _ h => h) (Or.inl ⟨by kernel_rfl, ?_⟩) (by assumption) ?_
  · (intro w hSw; (try dsimp only at hSw); go_simp)
  try simp only [List.getElem_toArray, List.getElem_cons_zero, List.getElem_cons_succ, Act.put, List.setIfInBounds_toArray, List.set_cons_zero, List.set_cons_succ]
  refine wpAnyH_take (i := 1) (oi := _) (v := .pointer (some ⟨B, 0, none⟩)) rfl (by kernel_rfl) (by kernel_rfl) (by kernel_rfl) (fun _ _ _ h => h) (Or.inl ⟨by kernel_rfl, ?_⟩) (by assumption) ?_
  · (intro w hSw; (try dsimp only at hSw); go_simp)
  try simp only [List.getElem_toArray, List.getElem_cons_zero, List.getElem_cons_succ, Act.put, List.setIfInBounds_toArray, List.set_cons_zero, List.set_cons_succ]
  refine wpAnyH_take (i := 2) (oi := _) (v := .pointer (some ⟨B, 3, none⟩)) rfl (by kernel_rfl) (by kernel_rfl) (by kernel_rfl) (fun _ _ _ h => h) (Or.inl ⟨by kernel_rfl, ?_⟩) (by assumption) ?_
  · (intro w hSw; (try dsimp only at hSw); go_simp)
  try simp only [List.getElem_toArray, List.getElem_cons_zero, List.getElem_cons_succ, Act.put, List.setIfInBounds_toArray, List.set_cons_zero, List.set_cons_succ]
  refine wpAnyH_take (i := 3) (oi := _) (v := .bool true) rfl (by kernel_rfl) (by kernel_rfl) (by kernel_rfl) (fun _ _ _ h => h) (Or.inl ⟨by kernel_rfl, ?_⟩) (by assumption) ?_
  · (intro w hSw; (try dsimp only at hSw); go_simp)
  try simp only [List.getElem_toArray, List.getElem_cons_zero, List.getElem_cons_succ, Act.put, List.setIfInBounds_toArray, List.set_cons_zero, List.set_cons_succ]
  refine wpAnyH_take (i := 4) (oi := _) (v := .bool true) rfl (by kernel_rfl) (by kernel_rfl) (by kernel_rfl) (fun _ _ _ h => h) (Or.inl ⟨by kernel_rfl, ?_⟩) (by assumption) ?_
  · (intro w hSw; (try dsimp only at hSw); go_simp)
  try simp only [List.getElem_toArray, List.getElem_cons_zero, List.getElem_cons_succ, Act.put, List.setIfInBounds_toArray, List.set_cons_zero, List.set_cons_succ]
  refine wpAnyH_take (i := 5) (oi := _) (v := undef) rfl (by kernel_rfl) (by kernel_rfl) (by kernel_rfl) (fun _ _ _ h => h) (Or.inr ⟨by kernel_rfl, rfl⟩) (by assumption) ?_
  try simp only [List.getElem_toArray, List.getElem_cons_zero, List.getElem_cons_succ, Act.put, List.setIfInBounds_toArray, List.set_cons_zero, List.set_cons_succ]
  refine wpAnyH_take (i := 6) (oi := _) (v := undef) rfl (by kernel_rfl) (by kernel_rfl) (by kernel_rfl) (fun _ _ _ h => h) (Or.inr ⟨by kernel_rfl, rfl⟩) (by assumption) ?_
  try simp only [List.getElem_toArray, List.getElem_cons_zero, List.getElem_cons_succ, Act.put, List.setIfInBounds_toArray, List.set_cons_zero, List.set_cons_succ]
  refine wpAnyH_take (i := 7) (oi := _) (v := undef) rfl (by kernel_rfl) (by kernel_rfl) (by kernel_rfl) (fun _ _ _ h => h) (Or.inr ⟨by kernel_rfl, rfl⟩) (by assumption) ?_
  try simp only [List.getElem_toArray, List.getElem_cons_zero, List.getElem_cons_succ, Act.put, List.setIfInBounds_toArray, List.set_cons_zero, List.set_cons_succ]
  refine wpAnyH_take (i := 8) (oi := _) (v := undef) rfl (by kernel_rfl) (by kernel_rfl) (by kernel_rfl) (fun _ _ _ h => h) (Or.inr ⟨by kernel_rfl, rfl⟩) (by assumption) ?_
  try simp only [List.getElem_toArray, List.getElem_cons_zero, List.getElem_cons_succ, Act.put, List.setIfInBounds_toArray, List.set_cons_zero, List.set_cons_succ]
  refine wpAnyH_take (i := 9) (oi := _) (v := undef) rfl (by kernel_rfl) (by kernel_rfl) (by kernel_rfl) (fun _ _ _ h => h) (Or.inr ⟨by kernel_rfl, rfl⟩) (by assumption) ?_
  try simp only [List.getElem_toArray, List.getElem_cons_zero, List.getElem_cons_succ, Act.put, List.setIfInBounds_toArray, List.set_cons_zero, List.set_cons_succ]
  refine wpAnyH_take (i := 10) (oi := _) (v := undef) rfl (by kernel_rfl) (by kernel_rfl) (by kernel_rfl) (fun _ _ _ h => h) (Or.inr ⟨by kernel_rfl, rfl⟩) (by assumption) ?_
  try simp only [List.getElem_toArray, List.getElem_cons_zero, List.getElem_cons_succ, Act.put, List.setIfInBounds_toArray, List.set_cons_zero, List.set_cons_succ]
  refine wpAnyH_take (i := 11) (oi := _) (v := undef) rfl (by kernel_rfl) (by kernel_rfl) (by kernel_rfl) (fun _ _ _ h => h) (Or.inr ⟨by kernel_rfl, rfl⟩) (by assumption) ?_
  try simp only [List.getElem_toArray, List.getElem_cons_zero, List.getElem_cons_succ, Act.put, List.setIfInBounds_toArray, List.set_cons_zero, List.set_cons_succ]
  refine wpAnyH_take (i := 12) (oi := _) (v := undef) rfl (by kernel_rfl) (by kernel_rfl) (by kernel_rfl) (fun _ _ _ h => h) (Or.inr ⟨by kernel_rfl, rfl⟩) (by assumption) ?_
  try simp only [List.getElem_toArray, List.getElem_cons_zero, List.getElem_cons_succ, Act.put, List.setIfInBounds_toArray, List.set_cons_zero, List.set_cons_succ]
  refine wpAnyH_take (i := 13) (oi := _) (v := undef) rfl (by kernel_rfl) (by kernel_rfl) (by kernel_rfl) (fun _ _ _ h => h) (Or.inr ⟨by kernel_rfl, rfl⟩) (by assumption) ?_
  try simp only [List.getElem_toArray, List.getElem_cons_zero, List.getElem_cons_succ, Act.put, List.setIfInBounds_toArray, List.set_cons_zero, List.set_cons_succ]
  refine wpAnyH_take (i := 14) (oi := _) (v := undef) rfl (by kernel_rfl) (by kernel_rfl) (by kernel_rfl) (fun _ _ _ h => h) (Or.inr ⟨by kernel_rfl, rfl⟩) (by assumption) ?_
  try simp only [List.getElem_toArray, List.getElem_cons_zero, List.getElem_cons_succ, Act.put, List.setIfInBounds_toArray, List.set_cons_zero, List.set_cons_succ]
  refine wpAnyH_take (i := 15) (oi := _) (v := .bool true) rfl (by kernel_rfl) (by kernel_rfl) (by kernel_rfl) (fun _ _ _ h => h) (Or.inl ⟨by kernel_rfl, ?_⟩) (by assumption) ?_
  · (intro w hSw; (try dsimp only at hSw); go_simp)
  try simp only [List.getElem_toArray, List.getElem_cons_zero, List.getElem_cons_succ, Act.put, List.setIfInBounds_toArray, List.set_cons_zero, List.set_cons_succ]
  refine wpAnyH_done (by kernel_rfl) ?_ _
  go_wp2
  go_ret
  exact ⟨by simp, drew_below w⟩
set_option maxHeartbeats 1000000 in
/-- the next byte at the end: 0. -/
theorem next_end (B : Nat) (s : ByteArray) (k : Nat) (v : Value) (long : Bool) (w : World) (h : RS B s k v false long w) (hk : s.size ≤ k) (hkk : k ≤ 1000000000000) :
    Calls Tryz.prog 117 #[.pointer (some ⟨B, 0, none⟩)] w fun e w' => e = .returned (.int .u8 0) ∧ Below w.heap.size w w' := by
  obtain ⟨-, c0, c1, c2, c3, c4, -⟩ := h
  have hk2 : (s.size : Int) ≤ (k : Int) := by omega
  go_enter Tryz.func117, Tryz.ntmps117
  go_wp2_with fail
  go_quiet (fail)
  go_wp2
  go_ret
  exact ⟨by simp, drewN_below w _⟩
theorem fail_any (B : Nat) (s : ByteArray) (k : Nat) (v : Value) (wrong long : Bool) (w : World) (h : RS B s k v wrong long w) :
    Calls Tryz.prog 122 #[.pointer (some ⟨B, 0, none⟩)] w fun e w' => e = .returned (.tuple #[]) ∧ RS B s k v true long w' ∧ But B w w' := by
  have h2 := Lib.hid h.fail_
  have f3 := h.fr 3 (by decide)
  obtain ⟨-, c0, c1, c2, c3, c4, -⟩ := h
  go_enter Tryz.func122, Tryz.ntmps122
  go_wp2
  go_end0
  exact ⟨rfl, h2.out, (But.refl B w).set 3 _⟩
end Go.Proofs.YtffngbjnbigipaaGreatDoor
