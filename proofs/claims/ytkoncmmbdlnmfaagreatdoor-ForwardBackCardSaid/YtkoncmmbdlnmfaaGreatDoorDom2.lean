/- addr.domain and addr.MayDomain: what is wrong with a domain, for texts of at most 10^12 bytes, where the package-level variables read as their texts lay them. -/
import Derived.Test.YtkoncmmbdlnmfaaGreatDoorDom
namespace Go.Proofs.YtkoncmmbdlnmfaaGreatDoor
open Go.RowKit Go.Lib
set_option linter.unusedSimpArgs false
set_option linter.unusedVariables false
set_option linter.unnecessarySimpa false
set_option maxRecDepth 100000

theorem short_clo (p : ByteArray) (W : World) : Calls Tryz.prog 185 (#[.string p] ++ #[]) W fun e w' => e = .returned (.bool (decide (p.size ≤ 63))) ∧ Below W.heap.size W w' := by
  go_enter Tryz.func185, Tryz.ntmps185
  go_wp2
  go_ret
  exact ⟨by simp; omega, Below.refl _ _⟩
/-- the negation of a captured test. -/
theorem not_clo (B G : Nat) (Q : Bool) (p : ByteArray) (W : World) (hc : W.cell? ⟨B, 0, none⟩ = some (.func (.func G) #[] #[]))
    (eg : ∀ args w, (callFunc G args).run Tryz.prog w = .ok (.enter G args) w)
    (hq : Calls Tryz.prog G (#[.string p] ++ #[]) W fun e w' => e = .returned (.bool Q) ∧ Below W.heap.size W w') :
    Calls Tryz.prog 181 (#[.string p] ++ #[.pointer (some ⟨B, 0, none⟩)]) W fun e w' => e = .returned (.bool (!Q)) ∧ Below W.heap.size W w' := by
  have HQ := Lib.hid hq
  clear hq
  go_enter Tryz.func181, Tryz.ntmps181
  go_wp2_with fail
  refine HQ.out.mono ?_
  rintro e w2 ⟨rfl, hb⟩
  go_wp2
  go_ret
  exact ⟨rfl, hb⟩
set_option maxHeartbeats 4000000 in
theorem all_any (G : Nat) (q : List UInt8 → Bool) (s : ByteArray) (hs : s.size ≤ 1000000000) (w : World) (hE : Env w)
    (eg : ∀ args w, (callFunc G args).run Tryz.prog w = .ok (.enter G args) w)
    (hq : ∀ p ∈ pieces 46 s.data.toList, ∀ W, Below w.heap.size w W → Calls Tryz.prog G (#[.string ⟨p.toArray⟩] ++ #[]) W fun e w' => e = .returned (.bool (q p)) ∧ Below W.heap.size W w') :
    Calls Tryz.prog 180 #[.string s, .func (.func G) #[] #[]] w fun e w' => e = .returned (.bool ((pieces 46 s.data.toList).all q)) ∧ Below w.heap.size w w' := by
  obtain ⟨m, hm⟩ := hE.m
  have hb0 : Below w.heap.size w (w.alloc (.cells #[.func (.func G) #[] #[]] 72)) := alloc_below w _
  obtain ⟨m0, hm0⟩ := (hE.below hb0).m
  have HS := Lib.hid (Tryz.strings_Split s ⟨#[46]⟩ m0 (w.alloc (.cells #[.func (.func G) #[] #[]] 72)) (by omega) hm0 (by decide))
  have HR := Lib.hid (Row.of_split (w.alloc (.cells #[.func (.func G) #[] #[]] 72)) 46 s)
  have HL := Lib.hid (pieces_rowlen 46 s (by omega))
  have HA := Lib.hid (any_strs (pieces 46 s.data.toList) q)
  have HQ := Lib.hid hq
  generalize (pieces 46 s.data.toList).all q = Q at HA
  generalize pieces 46 s.data.toList = ps at *
  clear hq hm hm0
  go_enter Tryz.func180, Tryz.ntmps180
  go_wp2_with fail
  refine HS.out.mono ?_
  rintro e w2 ⟨rfl, hw2⟩
  have hb2 : Below (w.alloc (.cells #[.func (.func G) #[] #[]] 72)).heap.size (w.alloc (.cells #[.func (.func G) #[] #[]] 72)) w2 := by rw [hw2]; exact alloc_below _ _
  have hr2 := HR.out
  rw [← hw2] at hr2
  have hbw := hb0.trans (hb2.mono hb0.size)
  have hcl : w2.cell? ⟨w.heap.size, 0, none⟩ = some (.func (.func G) #[] #[]) := by
    rw [hb2.cell (p := ⟨w.heap.size, 0, none⟩) (by rw [World.size_alloc]; exact Nat.lt_succ_self _)]
    exact new_cell w _ 72
  clear hw2
  have HC := Lib.hid (contains_strs 181 #[.pointer (some ⟨w.heap.size, 0, none⟩)] (fun v => !q (vBytes v)) _ _ w2 hr2 HL.out (enters_of Tryz.func181 (by kernel_rfl) rfl) (by
      intro x hx W hbW
      obtain ⟨p, hp, rfl⟩ := List.mem_map.1 hx
      have hlt : w.heap.size < w2.heap.size := World.block_lt_of_cell? w2 ⟨w.heap.size, 0, none⟩ hcl
      exact not_clo w.heap.size G (q p) ⟨p.toArray⟩ W ((hbW.cell (p := ⟨w.heap.size, 0, none⟩) hlt).trans hcl) eg (HQ.out p hp W (hbw.trans (hbW.mono hbw.size)))))
  rw [HA.out, World.size_alloc] at HC
  go_wp2_with fail
  refine HC.out.mono ?_
  rintro e w3 ⟨rfl, hb3⟩
  go_wp2
  go_ret
  exact ⟨by simp, hbw.trans (hb3.mono hbw.size)⟩

theorem size_le (p : List UInt8) : (decide ((⟨p.toArray⟩ : ByteArray).size ≤ 63)) = !(decide (63 < p.length)) := by
  have e : (⟨p.toArray⟩ : ByteArray).size = p.length := rfl
  rw [e]
  by_cases h : p.length ≤ 63
  · rw [decide_eq_true h, decide_eq_false (by omega)]; rfl
  · rw [decide_eq_false h, decide_eq_true (by omega)]; rfl
theorem piece_len (c : UInt8) (s : ByteArray) (p : List UInt8) (hp : p ∈ pieces c s.data.toList) : (⟨p.toArray⟩ : ByteArray).size ≤ s.size := piece_size c s p hp
theorem all_octets (s : ByteArray) (hs : s.size ≤ 1000000000) (w : World) (hE : Env w) :
    Calls Tryz.prog 180 #[.string s, .func (.func 183) #[] #[]] w fun e w' => e = .returned (.bool ((pieces 46 s.data.toList).all octL)) ∧ Below w.heap.size w w' :=
  all_any 183 octL s hs w hE (enters_of Tryz.func183 (by kernel_rfl) rfl) fun p hp W hb => by
    simpa using octet_any ⟨p.toArray⟩ (Nat.le_trans (piece_size 46 s p hp) (by omega)) W (hE.below hb)
theorem all_labels (s : ByteArray) (hs : s.size ≤ 1000000000) (w : World) (hE : Env w) :
    Calls Tryz.prog 180 #[.string s, .func (.func 184) #[] #[]] w fun e w' => e = .returned (.bool ((pieces 46 s.data.toList).all labelL)) ∧ Below w.heap.size w w' :=
  all_any 184 labelL s hs w hE (enters_of Tryz.func184 (by kernel_rfl) rfl) fun p hp W hb => by
    simpa using label_any ⟨p.toArray⟩ (Nat.le_trans (piece_size 46 s p hp) (by omega)) W
theorem all_short (s : ByteArray) (hs : s.size ≤ 1000000000) (w : World) (hE : Env w) :
    Calls Tryz.prog 180 #[.string s, .func (.func 185) #[] #[]] w fun e w' => e = .returned (.bool ((pieces 46 s.data.toList).all fun p => !decide (63 < p.length))) ∧ Below w.heap.size w w' :=
  all_any 185 (fun p => !decide (63 < p.length)) s hs w hE (enters_of Tryz.func185 (by kernel_rfl) rfl) fun p hp W hb => by
    have := short_clo ⟨p.toArray⟩ W
    rw [size_le] at this
    exact this
end Go.Proofs.YtkoncmmbdlnmfaaGreatDoor
