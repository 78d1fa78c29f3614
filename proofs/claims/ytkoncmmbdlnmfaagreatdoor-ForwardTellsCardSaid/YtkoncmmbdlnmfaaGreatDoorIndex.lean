/- slices.IndexFunc and slices.ContainsFunc over texts and over bytes, the function value described by what it hands back at each element and by writing new memory alone. -/
import Derived.Test.YtkoncmmbdlnmfaaGreatDoorRow
import Derived.Test.YtkoncmmbdlnmfaaGreatDoorDot
import Derived.Deep.DeepCutAuto
import Derived.Deep.LoopGhost
import Derived.Deep.QuietTactic
namespace Go.Proofs.YtkoncmmbdlnmfaaGreatDoor
open Go.RowKit Go.Lib
set_option linter.unusedSimpArgs false
set_option linter.unusedVariables false
set_option maxRecDepth 100000

def FindRel (w0 : World) (n : Nat) (xs : List Value) (q : Value → Bool) (g : Nat) (v8 : Value) (W : World) : Prop :=
  ∃ i : Nat, v8 = .int .i64 (i : Int) ∧ i ≤ xs.length ∧ g = xs.length - i ∧ Below w0.heap.size w0 W ∧ ∀ (j : Nat) (h : j < xs.length), j < i → q xs[j] = false
theorem any_false {xs : List Value} {q : Value → Bool} (h : ∀ (j : Nat) (h : j < xs.length), j < xs.length → q xs[j] = false) : xs.any q = false := by
  rw [List.any_eq_false]
  intro x hx
  obtain ⟨j, hj, rfl⟩ := List.getElem_of_mem hx
  simpa using h j hj hj
theorem any_true {xs : List Value} {q : Value → Bool} (i : Nat) (hi : i < xs.length) (h : q xs[i] = true) : xs.any q = true :=
  List.any_eq_true.2 ⟨_, List.getElem_mem hi, h⟩
theorem row_nil {w : World} {v : Value} {xs : List Value} (h : Row w v xs) : ∃ p cap, v = .slice p xs.length cap ∧ (xs = [] ∨ ∃ b o, p = some ⟨b, o, none⟩ ∧ b < w.heap.size ∧ ∀ (i : Nat) (h : i < xs.length), w.cell? ⟨b, o + i, none⟩ = some xs[i]) := h

set_option maxHeartbeats 4000000 in
theorem find_strs (G : Nat) (lb : Array Value) (q : Value → Bool) (v : Value) (xs : List Value) (w : World) (hv : Row w v xs) (hl : xs.length ≤ 1099511627776)
    (eg : ∀ args w, (callFunc G args).run Tryz.prog w = .ok (.enter G args) w)
    (hf : ∀ x ∈ xs, ∀ W, Below w.heap.size w W → Calls Tryz.prog G (#[x] ++ lb) W fun e w' => e = .returned (.bool (q x)) ∧ Below W.heap.size W w') :
    Calls Tryz.prog 173 #[v, .func (.func G) #[] lb] w fun e w' => ∃ r : Int, e = .returned (.int .i64 r) ∧ decide (0 ≤ r) = xs.any q ∧ Below w.heap.size w w' := by
  obtain ⟨p, cap, rfl, hc⟩ := hv
  have HF := Lib.hid hf
  have HC := Lib.hid hc
  clear hf hc
  go_enter Tryz.func173, Tryz.ntmps173
  go_wp2_with fail
  go_loopg [8] xs.length (fun g v8 W => FindRel w xs.length xs q g v8 W)
  case atStart => exact ⟨0, rfl, by omega, by omega, Below.refl _ _, fun j h hj => by omega⟩
  case round =>
    obtain ⟨i, rfl, hi, hg, hb, hno⟩ := hrel
    have HN := Lib.hid hno
    have HG := Lib.hid hg
    clear hno hg
    by_cases hlt : i < xs.length
    · obtain rfl | ⟨b, o, rfl, hbl, hcc⟩ := HC.out
      · simp at hlt
      · have hcell : wr.cell? ⟨b, o + i, none⟩ = some xs[i] := (hb.cell (p := ⟨b, o + i, none⟩) hbl).trans (hcc i hlt)
        have hx := HF.out xs[i] (List.getElem_mem hlt) wr hb
        have HX := Lib.hid (show q xs[i] = q xs[i] from rfl)
        have HHN := Lib.hid (fun h : q xs[i] = true => any_true (q := q) i hlt h)
        have HHF := Lib.hid (fun h : q xs[i] = false => (fun (j : Nat) (hj : j < xs.length) (hji : j < i + 1) => by
          rcases Nat.lt_succ_iff_lt_or_eq.1 hji with h1 | rfl
          · exact HN.out j hj h1
          · exact h : ∀ (j : Nat) (hj : j < xs.length), j < i + 1 → q xs[j] = false))
        clear hcc
        generalize q xs[i] = Q at hx HHN HHF HX
        have HCall := Lib.hid hx
        clear hx
        go_wp2_with fail
        refine HCall.out.mono ?_
        rintro e w2 ⟨rfl, hb2⟩
        have hbw := hb.trans (hb2.mono hb.size)
        cases Q with
        | true =>
          go_wp2
          go_ret
          exact ⟨_, rfl, by rw [HHN.out (by simp)]; simp, hbw⟩
        | false =>
          go_wp2_with fail
          go_roundg (xs.length - (i + 1))
          case rel => exact ⟨i + 1, by go_num, by omega, rfl, hbw, HHF.out (by simp)⟩
          case measure => have := HG.out; omega
    · go_wp2
      go_ret
      have : i = xs.length := by omega
      subst this
      exact ⟨-1, rfl, by rw [any_false (fun j h hj => HN.out j h hj)]; rfl, hb⟩
set_option maxHeartbeats 4000000 in
theorem find_bytes (G : Nat) (lb : Array Value) (q : Value → Bool) (v : Value) (xs : List Value) (w : World) (hv : Row w v xs) (hl : xs.length ≤ 1099511627776)
    (eg : ∀ args w, (callFunc G args).run Tryz.prog w = .ok (.enter G args) w)
    (hf : ∀ x ∈ xs, ∀ W, Below w.heap.size w W → Calls Tryz.prog G (#[x] ++ lb) W fun e w' => e = .returned (.bool (q x)) ∧ Below W.heap.size W w') :
    Calls Tryz.prog 186 #[v, .func (.func G) #[] lb] w fun e w' => ∃ r : Int, e = .returned (.int .i64 r) ∧ decide (0 ≤ r) = xs.any q ∧ Below w.heap.size w w' := by
  obtain ⟨p, cap, rfl, hc⟩ := hv
  have HF := Lib.hid hf
  have HC := Lib.hid hc
  clear hf hc
  go_enter Tryz.func186, Tryz.ntmps186
  go_wp2_with fail
  go_loopg [8] xs.length (fun g v8 W => FindRel w xs.length xs q g v8 W)
  case atStart => exact ⟨0, rfl, by omega, by omega, Below.refl _ _, fun j h hj => by omega⟩
  case round =>
    obtain ⟨i, rfl, hi, hg, hb, hno⟩ := hrel
    have HN := Lib.hid hno
    have HG := Lib.hid hg
    clear hno hg
    by_cases hlt : i < xs.length
    · obtain rfl | ⟨b, o, rfl, hbl, hcc⟩ := HC.out
      · simp at hlt
      · have hcell : wr.cell? ⟨b, o + i, none⟩ = some xs[i] := (hb.cell (p := ⟨b, o + i, none⟩) hbl).trans (hcc i hlt)
        have hx := HF.out xs[i] (List.getElem_mem hlt) wr hb
        have HX := Lib.hid (show q xs[i] = q xs[i] from rfl)
        have HHN := Lib.hid (fun h : q xs[i] = true => any_true (q := q) i hlt h)
        have HHF := Lib.hid (fun h : q xs[i] = false => (fun (j : Nat) (hj : j < xs.length) (hji : j < i + 1) => by
          rcases Nat.lt_succ_iff_lt_or_eq.1 hji with h1 | rfl
          · exact HN.out j hj h1
          · exact h : ∀ (j : Nat) (hj : j < xs.length), j < i + 1 → q xs[j] = false))
        clear hcc
        generalize q xs[i] = Q at hx HHN HHF HX
        have HCall := Lib.hid hx
        clear hx
        go_wp2_with fail
        refine HCall.out.mono ?_
        rintro e w2 ⟨rfl, hb2⟩
        have hbw := hb.trans (hb2.mono hb.size)
        cases Q with
        | true =>
          go_wp2
          go_ret
          exact ⟨_, rfl, by rw [HHN.out (by simp)]; simp, hbw⟩
        | false =>
          go_wp2_with fail
          go_roundg (xs.length - (i + 1))
          case rel => exact ⟨i + 1, by go_num, by omega, rfl, hbw, HHF.out (by simp)⟩
          case measure => have := HG.out; omega
    · go_wp2
      go_ret
      have : i = xs.length := by omega
      subst this
      exact ⟨-1, rfl, by rw [any_false (fun j h hj => HN.out j h hj)]; rfl, hb⟩

set_option maxHeartbeats 4000000 in
theorem contains_strs (G : Nat) (lb : Array Value) (q : Value → Bool) (v : Value) (xs : List Value) (w : World) (hv : Row w v xs) (hl : xs.length ≤ 1099511627776)
    (eg : ∀ args w, (callFunc G args).run Tryz.prog w = .ok (.enter G args) w)
    (hf : ∀ x ∈ xs, ∀ W, Below w.heap.size w W → Calls Tryz.prog G (#[x] ++ lb) W fun e w' => e = .returned (.bool (q x)) ∧ Below W.heap.size W w') :
    Calls Tryz.prog 131 #[v, .func (.func G) #[] lb] w fun e w' => e = .returned (.bool (xs.any q)) ∧ Below w.heap.size w w' := by
  have HF := Lib.hid (find_strs G lb q v xs w hv hl eg hf)
  obtain ⟨p, cap, rfl, -⟩ := hv
  clear hf
  generalize xs.any q = Q at HF
  go_enter Tryz.func131, Tryz.ntmps131
  go_wp2_with fail
  refine HF.out.mono ?_
  rintro e w2 ⟨r, rfl, hr, hb⟩
  have HR := Lib.hid hr
  clear hr
  go_wp2
  go_ret
  exact ⟨by rw [← HR.out]; rfl, hb⟩

set_option maxHeartbeats 4000000 in
theorem contains_bytes (G : Nat) (lb : Array Value) (q : Value → Bool) (v : Value) (xs : List Value) (w : World) (hv : Row w v xs) (hl : xs.length ≤ 1099511627776)
    (eg : ∀ args w, (callFunc G args).run Tryz.prog w = .ok (.enter G args) w)
    (hf : ∀ x ∈ xs, ∀ W, Below w.heap.size w W → Calls Tryz.prog G (#[x] ++ lb) W fun e w' => e = .returned (.bool (q x)) ∧ Below W.heap.size W w') :
    Calls Tryz.prog 139 #[v, .func (.func G) #[] lb] w fun e w' => e = .returned (.bool (xs.any q)) ∧ Below w.heap.size w w' := by
  have HF := Lib.hid (find_bytes G lb q v xs w hv hl eg hf)
  obtain ⟨p, cap, rfl, -⟩ := hv
  clear hf
  generalize xs.any q = Q at HF
  go_enter Tryz.func139, Tryz.ntmps139
  go_wp2_with fail
  refine HF.out.mono ?_
  rintro e w2 ⟨r, rfl, hr, hb⟩
  have HR := Lib.hid hr
  clear hr
  go_wp2
  go_ret
  exact ⟨by rw [← HR.out]; rfl, hb⟩

theorem Atom_clo (c : Nat) (hc : c < 256) (W : World) (hA : AText W) : Calls Tryz.prog 175 (#[.int .u8 (c : Int)] ++ #[]) W fun e w' => e = .returned (.bool (!atomB c)) ∧ Below W.heap.size W w' := by
  have HA := Lib.hid (atomic_any c hc W hA)
  generalize atomB c = A at HA
  go_enter Tryz.func175, Tryz.ntmps175
  go_wp2_with fail
  refine HA.out.mono ?_
  rintro e w2 ⟨rfl, rfl⟩
  go_wp2
  go_ret
  exact ⟨rfl, Below.refl _ _⟩
end Go.Proofs.YtkoncmmbdlnmfaaGreatDoor
