/- list's reader: its methods domain, read, word: in a list, and in what is none. -/
import Derived.Test.YtffngbjnbigipaaGreatDoorRRow
import Derived.Test.YtffngbjnbigipaaGreatDoorParse
namespace Go.Proofs.YtffngbjnbigipaaGreatDoor
open Go.RowKit Go.Lib
set_option linter.unusedSimpArgs false
set_option linter.unusedVariables false
set_option linter.unnecessarySimpa false
set_option maxRecDepth 100000

/-- a reader that is wrong: nothing more is asked of it. -/
def RW (B : Nat) (s : ByteArray) (W : World) : Prop := ∃ k v long, k ≤ s.size ∧ RS B s k v true long W
theorem RW.of {B : Nat} {s : ByteArray} {k : Nat} {v : Value} {long : Bool} {W : World} (hk : k ≤ s.size) (h : RS B s k v true long W) : RW B s W := ⟨k, v, long, hk, h⟩
theorem RW.below {B : Nat} {s : ByteArray} {w W : World} (h : RW B s w) (hb : Below w.heap.size w W) : RW B s W := by
  obtain ⟨k, v, long, hk, h⟩ := h
  exact ⟨k, v, long, hk, h.below hb⟩
theorem eg179 : ∀ args w, (callFunc 179 args).run Tryz.prog w = .ok (.enter 179 args) w := enters_of Tryz.func179 (by kernel_rfl) rfl
theorem eg180 : ∀ args w, (callFunc 180 args).run Tryz.prog w = .ok (.enter 180 args) w := enters_of Tryz.func180 (by kernel_rfl) rfl
theorem eg154 : ∀ args w, (callFunc 154 args).run Tryz.prog w = .ok (.enter 154 args) w := enters_of Tryz.func154 (by kernel_rfl) rfl
theorem get_list (s : ByteArray) (k : Nat) (h : k < s.size) : s.data.toList[k]? = some s[k] := by
  have := drop_cons s k h
  have h2 := congrArg (fun l : List UInt8 => l[0]?) this
  simpa using h2
theorem get_none (s : ByteArray) (k : Nat) (h : s.size ≤ k) : s.data.toList[k]? = none := List.getElem?_eq_none (by rw [list_len]; exact h)
theorem get_lt (s : ByteArray) (k : Nat) (c : UInt8) (h : s.data.toList[k]? = some c) : ∃ hk : k < s.size, s[k] = c := by
  have h1 := at_lt h
  rw [list_len] at h1
  refine ⟨h1, ?_⟩
  rw [get_list s k h1] at h
  exact Option.some.inj h
/-- is, at another byte or at the end. -/
theorem is_not (B : Nat) (s : ByteArray) (k : Nat) (v : Value) (long : Bool) (c : UInt8) (w : World) (h : RS B s k v false long w) (hk : k ≤ s.size) (hs : s.size ≤ 1000000000000) (hc : s.data.toList[k]? ≠ some c) :
    Calls Tryz.prog 72 #[.pointer (some ⟨B, 0, none⟩), .int .u8 (c.toNat : Int)] w fun e w' => e = .returned (.bool false) ∧ Below w.heap.size w w' := by
  by_cases hlt : k < s.size
  · refine is_no B s k v long c.toNat w h hlt hs (fun e => hc ?_)
    rw [get_list s k hlt, UInt8.toNat_inj.1 e]
  · exact is_end B s k v long c.toNat w h (by omega) (by omega)
theorem is_at (B : Nat) (s : ByteArray) (k : Nat) (v : Value) (long : Bool) (c : UInt8) (w : World) (h : RS B s k v false long w) (hs : s.size ≤ 1000000000000) (hc : s.data.toList[k]? = some c) :
    Calls Tryz.prog 72 #[.pointer (some ⟨B, 0, none⟩), .int .u8 (c.toNat : Int)] w fun e w' => e = .returned (.bool true) ∧ RS B s (k + 1) v false long w' ∧ But B w w' := by
  obtain ⟨hk, rfl⟩ := get_lt s k c hc
  exact is_yes B s k v long w h hk hs
theorem must_at (B : Nat) (s : ByteArray) (k : Nat) (v : Value) (long : Bool) (c : UInt8) (w : World) (h : RS B s k v false long w) (hs : s.size ≤ 1000000000000) (hc : s.data.toList[k]? = some c) :
    Calls Tryz.prog 121 #[.pointer (some ⟨B, 0, none⟩), .int .u8 (c.toNat : Int)] w fun e w' => e = .returned (.tuple #[]) ∧ RS B s (k + 1) v false long w' ∧ But B w w' := by
  obtain ⟨hk, rfl⟩ := get_lt s k c hc
  exact must_yes B s k v long w h hk hs
theorem must_not (B : Nat) (s : ByteArray) (k : Nat) (v : Value) (long : Bool) (c : UInt8) (w : World) (h : RS B s k v false long w) (hk : k ≤ s.size) (hs : s.size ≤ 1000000000000) (hc : s.data.toList[k]? ≠ some c) :
    Calls Tryz.prog 121 #[.pointer (some ⟨B, 0, none⟩), .int .u8 (c.toNat : Int)] w fun e w' => e = .returned (.tuple #[]) ∧ RW B s w' ∧ But B w w' :=
  (must_no B s k v false long c.toNat w h (is_not B s k v long c w h hk hs hc)).mono fun _ _ ⟨h1, h2, h3⟩ => ⟨h1, .of hk h2, h3⟩
theorem must_wrong (B : Nat) (s : ByteArray) (c : Nat) (w : World) (h : RW B s w) :
    Calls Tryz.prog 121 #[.pointer (some ⟨B, 0, none⟩), .int .u8 (c : Int)] w fun e w' => e = .returned (.tuple #[]) ∧ RW B s w' ∧ But B w w' := by
  obtain ⟨k, v, long, hk, h⟩ := h
  exact (must_no B s k v true long c w h (is_wrong B s k v long c w h)).mono fun _ _ ⟨h1, h2, h3⟩ => ⟨h1, .of hk h2, h3⟩
theorem is_wrong' (B : Nat) (s : ByteArray) (c : Nat) (w : World) (h : RW B s w) :
    Calls Tryz.prog 72 #[.pointer (some ⟨B, 0, none⟩), .int .u8 (c : Int)] w fun e w' => e = .returned (.bool false) ∧ RW B s w' ∧ But B w w' := by
  obtain ⟨k, v, long, hk, h⟩ := h
  exact (is_wrong B s k v long c w h).mono fun _ _ ⟨h1, h2⟩ => ⟨h1, .of hk (h.below h2), .of_below h2⟩
theorem blank_wrong' (B : Nat) (s : ByteArray) (w : World) (h : RW B s w) :
    Calls Tryz.prog 116 #[.pointer (some ⟨B, 0, none⟩)] w fun e w' => e = .returned (.tuple #[]) ∧ RW B s w' ∧ But B w w' := by
  obtain ⟨k, v, long, hk, h⟩ := h
  exact (blank_wrong B s k v long w h).mono fun _ _ ⟨h1, h2, h3⟩ => ⟨h1, .of hk h2, h3⟩
theorem fail_wrong (B : Nat) (s : ByteArray) (k : Nat) (v : Value) (wrong long : Bool) (w : World) (h : RS B s k v wrong long w) (hk : k ≤ s.size) :
    Calls Tryz.prog 122 #[.pointer (some ⟨B, 0, none⟩)] w fun e w' => e = .returned (.tuple #[]) ∧ RW B s w' ∧ But B w w' :=
  (fail_any B s k v wrong long w h).mono fun _ _ ⟨h1, h2, h3⟩ => ⟨h1, .of hk h2, h3⟩
theorem fail_rw (B : Nat) (s : ByteArray) (w : World) (h : RW B s w) :
    Calls Tryz.prog 122 #[.pointer (some ⟨B, 0, none⟩)] w fun e w' => e = .returned (.tuple #[]) ∧ RW B s w' ∧ But B w w' := by
  obtain ⟨k, v, long, hk, h⟩ := h
  exact fail_wrong B s k v true long w h hk
theorem next_wrong' (B : Nat) (s : ByteArray) (w : World) (h : RW B s w) :
    Calls Tryz.prog 117 #[.pointer (some ⟨B, 0, none⟩)] w fun e w' => e = .returned (.int .u8 0) ∧ RW B s w' ∧ But B w w' := by
  obtain ⟨k, v, long, hk, h⟩ := h
  exact (next_wrong B s k v long w h).mono fun _ _ ⟨h1, h2⟩ => ⟨h1, .of hk (h.below h2), .of_below h2⟩
/-- blank, as the document's. -/
theorem blank_some (B : Nat) (s : ByteArray) (k n : Nat) (v : Value) (long : Bool) (w : World) (h : RS B s k v false long w) (hk : k ≤ s.size) (hs : s.size ≤ 1000000000000) (hn : blankE s.data.toList k = some n) :
    Calls Tryz.prog 116 #[.pointer (some ⟨B, 0, none⟩)] w fun e w' => e = .returned (.tuple #[]) ∧ RS B s n v false long w' ∧ But B w w' := by
  have hb := blank_any B s k v long w h hk hs
  unfold blankE at hn
  split at hn
  · rename_i h0
    injection hn with hn
    rw [hn, h0] at hb
    exact hb
  · cases hn
theorem blank_none (B : Nat) (s : ByteArray) (k : Nat) (v : Value) (long : Bool) (w : World) (h : RS B s k v false long w) (hk : k ≤ s.size) (hs : s.size ≤ 1000000000000) (hn : blankE s.data.toList k = none) :
    Calls Tryz.prog 116 #[.pointer (some ⟨B, 0, none⟩)] w fun e w' => e = .returned (.tuple #[]) ∧ RW B s w' ∧ But B w w' := by
  have hb := blank_any B s k v long w h hk hs
  have hm := blank_many (s.data.toList.drop k)
  rw [List.length_drop, list_len] at hm
  unfold blankE at hn
  split at hn
  · cases hn
  · rename_i h0
    rw [show decide ((blankL (s.data.toList.drop k)).2 ≠ 0) = true by simpa using h0] at hb
    exact hb.mono fun _ _ ⟨h1, h2, h3⟩ => ⟨h1, .of (by omega) h2, h3⟩

/-! domain -/
theorem end_step {l : List UInt8} {k : Nat} (h : l[k]? = some 91) : tw notEnd (l.drop k) = tw notEnd (l.drop (k + 1)) + 1 := by
  have hlt := at_lt h
  rw [List.drop_eq_getElem_cons hlt]
  have : l[k] = 91 := by rw [List.getElem?_eq_getElem hlt] at h; exact Option.some.inj h
  rw [tw_yes _ _ _ (by rw [this]; decide)]
theorem tw_stop (p : UInt8 → Bool) : ∀ (l : List UInt8) (c : UInt8), l[tw p l]? = some c → p c = false
  | [], c, h => by simp at h
  | a :: l, c, h => by
    cases ha : p a with
    | true => rw [tw_yes p a l ha] at h; exact tw_stop p l c (by simpa using h)
    | false => rw [tw_no p a l ha] at h; simp at h; rw [← h]; exact ha
theorem notEnd_no {x : UInt8} (h : notEnd x = false) : x = 93 := by unfold notEnd at h; simpa using h
set_option maxHeartbeats 1000000 in
theorem domain_some (B : Nat) (s : ByteArray) (k n : Nat) (v : Value) (long : Bool) (w : World) (h : RS B s k v false long w) (hk : k ≤ s.size) (hs : s.size ≤ 1000000000000) (hn : domE s.data.toList k = some n) :
    Calls Tryz.prog 155 #[.pointer (some ⟨B, 0, none⟩)] w fun e w' => e = .returned (.tuple #[]) ∧ RS B s n v false long w' ∧ But B w w' := by
  unfold domE at hn
  split at hn
  · rename_i h91
    rw [end_step h91] at hn
    split at hn
    · rename_i hlt
      rw [list_len] at hlt
      injection hn with hn
      have hk1 : k + 1 ≤ s.size := by have := at_lt h91; rw [list_len] at this; exact this
      have HI := Lib.hid (is_at B s k v long 91 w h hs h91)
      have hc : s.data.toList[k + 1 + tw notEnd (s.data.toList.drop (k + 1))]? = some 93 := by
        have hlt2 : k + 1 + tw notEnd (s.data.toList.drop (k + 1)) < s.size := by omega
        rw [get_list s _ hlt2]
        have := tw_stop notEnd (s.data.toList.drop (k + 1)) s[k + 1 + tw notEnd (s.data.toList.drop (k + 1))] (by rw [List.getElem?_drop, get_list s _ hlt2])
        rw [notEnd_no this]
      have HR := Lib.hid (fun W (h : RS B s (k + 1) v false long W) => row_any 179 notEnd B s (k + 1) v false long W h hk1 hs eg179 (fun c W _ => end_clo c W))
      obtain rfl : n = k + 1 + tw notEnd (s.data.toList.drop (k + 1)) + 1 := by omega
      generalize tw notEnd (s.data.toList.drop (k + 1)) = N at HR hc
      have HM := Lib.hid (fun W (h : RS B s (k + 1 + N) v false long W) => must_at B s (k + 1 + N) v long 93 W h hs hc)
      clear hn hc h91 h
      go_enter Tryz.func155, Tryz.ntmps155
      go_wp2_with fail
      refine HI.out.mono ?_
      rintro e w1 ⟨rfl, hr1, hb1⟩
      have H1 := Lib.hid hr1
      clear hr1
      go_wp2_with fail
      refine (HR.out _ H1.out).mono ?_
      rintro e w2 ⟨rfl, hr2, hb2⟩
      have H2 := Lib.hid hr2
      clear hr2
      go_wp2_with fail
      refine (HM.out _ H2.out).mono ?_
      rintro e w3 ⟨rfl, hr3, hb3⟩
      have H3 := Lib.hid hr3
      clear hr3
      go_wp2
      refine bodyPost_ret (v := .tuple #[]) (by simp [results, Tryz.results155, go_sem]) rfl ⟨rfl, H3.out, (hb1.trans hb2).trans hb3⟩
    · cases hn
  · rename_i h91
    split at hn
    · cases hn
    · rename_i hN
      injection hn with hn
      subst hn
      have HI := Lib.hid (is_not B s k v long 91 w h hk hs h91)
      have HR := Lib.hid (fun W (h : RS B s k v false long W) => row_any 180 hostdotB B s k v false long W h hk hs eg180 (fun c W _ => host_clo c W))
      have HH := Lib.hid h
      generalize tw hostdotB (s.data.toList.drop k) = N at HR hN ⊢
      have hd : decide (0 < N) = true := by simp; omega
      clear h91 h hN
      go_enter Tryz.func155, Tryz.ntmps155
      go_wp2_with fail
      refine HI.out.mono ?_
      rintro e w1 ⟨rfl, hb1⟩
      go_wp2_with fail
      refine (HR.out _ (HH.out.below hb1)).mono ?_
      rintro e w2 ⟨rfl, hr2, hb2⟩
      have H2 := Lib.hid hr2
      clear hr2
      go_wp2
      go_end0
      exact ⟨rfl, H2.out, (But.of_below hb1).trans hb2⟩
set_option maxHeartbeats 1000000 in
theorem domain_none (B : Nat) (s : ByteArray) (k : Nat) (v : Value) (long : Bool) (w : World) (h : RS B s k v false long w) (hk : k ≤ s.size) (hs : s.size ≤ 1000000000000) (hn : domE s.data.toList k = none) :
    Calls Tryz.prog 155 #[.pointer (some ⟨B, 0, none⟩)] w fun e w' => e = .returned (.tuple #[]) ∧ RW B s w' ∧ But B w w' := by
  unfold domE at hn
  split at hn
  · rename_i h91
    rw [end_step h91] at hn
    split at hn
    · cases hn
    · rename_i hlt
      rw [list_len] at hlt
      have hk1 : k + 1 ≤ s.size := by have := at_lt h91; rw [list_len] at this; exact this
      have HI := Lib.hid (is_at B s k v long 91 w h hs h91)
      have htw := tw_le notEnd (s.data.toList.drop (k + 1))
      rw [List.length_drop, list_len] at htw
      have HR := Lib.hid (fun W (h : RS B s (k + 1) v false long W) => row_any 179 notEnd B s (k + 1) v false long W h hk1 hs eg179 (fun c W _ => end_clo c W))
      generalize tw notEnd (s.data.toList.drop (k + 1)) = N at HR hlt htw
      have hge : k + 1 + N = s.size := by omega
      have HM := Lib.hid (fun W (h : RS B s (k + 1 + N) v false long W) => must_not B s (k + 1 + N) v long 93 W h (by omega) hs (by rw [get_none s _ (by omega)]; simp))
      clear hn h91 h hge hlt htw
      go_enter Tryz.func155, Tryz.ntmps155
      go_wp2_with fail
      refine HI.out.mono ?_
      rintro e w1 ⟨rfl, hr1, hb1⟩
      have H1 := Lib.hid hr1
      clear hr1
      go_wp2_with fail
      refine (HR.out _ H1.out).mono ?_
      rintro e w2 ⟨rfl, hr2, hb2⟩
      have H2 := Lib.hid hr2
      clear hr2
      go_wp2_with fail
      refine (HM.out _ H2.out).mono ?_
      rintro e w3 ⟨rfl, hr3, hb3⟩
      have H3 := Lib.hid hr3
      clear hr3
      go_wp2
      refine bodyPost_ret (v := .tuple #[]) (by simp [results, Tryz.results155, go_sem]) rfl ⟨rfl, H3.out, (hb1.trans hb2).trans hb3⟩
  · rename_i h91
    split at hn
    · rename_i hN
      have HI := Lib.hid (is_not B s k v long 91 w h hk hs h91)
      have HR := Lib.hid (fun W (h : RS B s k v false long W) => row_any 180 hostdotB B s k v false long W h hk hs eg180 (fun c W _ => host_clo c W))
      have HH := Lib.hid h
      rw [hN] at HR
      simp only [Nat.lt_irrefl, decide_false, Nat.add_zero] at HR
      clear h91 h hN hn
      go_enter Tryz.func155, Tryz.ntmps155
      go_wp2_with fail
      refine HI.out.mono ?_
      rintro e w1 ⟨rfl, hb1⟩
      go_wp2_with fail
      refine (HR.out _ (HH.out.below hb1)).mono ?_
      rintro e w2 ⟨rfl, hr2, hb2⟩
      have HF := Lib.hid (fail_wrong B s k v false long w2 hr2 hk)
      clear hr2
      go_wp2_with fail
      refine HF.out.mono ?_
      rintro e w3 ⟨rfl, hr3, hb3⟩
      have H3 := Lib.hid hr3
      clear hr3
      go_wp2
      go_end0
      exact ⟨rfl, H3.out, ((But.of_below hb1).trans hb2).trans hb3⟩
    · cases hn
set_option maxHeartbeats 1000000 in
theorem domain_wrong (B : Nat) (s : ByteArray) (w : World) (h : RW B s w) (hs : s.size ≤ 1000000000000) :
    Calls Tryz.prog 155 #[.pointer (some ⟨B, 0, none⟩)] w fun e w' => e = .returned (.tuple #[]) ∧ RW B s w' ∧ But B w w' := by
  obtain ⟨k, v, long, hk, h⟩ := h
  have htw := tw_le hostdotB (s.data.toList.drop k)
  rw [List.length_drop, list_len] at htw
  have HI := Lib.hid (is_wrong B s k v long 91 w h)
  have HR := Lib.hid (fun W (h : RS B s k v true long W) => row_any 180 hostdotB B s k v true long W h hk hs eg180 (fun c W _ => host_clo c W))
  have HH := Lib.hid h
  generalize tw hostdotB (s.data.toList.drop k) = N at HR htw
  clear h
  by_cases hN : 0 < N
  · have hd : decide (0 < N) = true := by simpa using hN
    have hkN : k + N ≤ s.size := by omega
    clear htw
    go_enter Tryz.func155, Tryz.ntmps155
    go_wp2_with fail
    refine HI.out.mono ?_
    rintro e w1 ⟨rfl, hb1⟩
    go_wp2_with fail
    refine (HR.out _ (HH.out.below hb1)).mono ?_
    rintro e w2 ⟨rfl, hr2, hb2⟩
    have H2 := Lib.hid hr2
    clear hr2
    go_wp2
    go_end0
    exact ⟨rfl, .of hkN H2.out, (But.of_below hb1).trans hb2⟩
  · have hd : decide (0 < N) = false := by simpa using hN
    have hkN : k + N ≤ s.size := by omega
    clear htw
    go_enter Tryz.func155, Tryz.ntmps155
    go_wp2_with fail
    refine HI.out.mono ?_
    rintro e w1 ⟨rfl, hb1⟩
    go_wp2_with fail
    refine (HR.out _ (HH.out.below hb1)).mono ?_
    rintro e w2 ⟨rfl, hr2, hb2⟩
    have HF := Lib.hid (fail_wrong B s (k + N) v true long w2 hr2 hkN)
    clear hr2
    go_wp2_with fail
    refine HF.out.mono ?_
    rintro e w3 ⟨rfl, hr3, hb3⟩
    have H3 := Lib.hid hr3
    clear hr3
    go_wp2
    go_end0
    exact ⟨rfl, H3.out, ((But.of_below hb1).trans hb2).trans hb3⟩
end Go.Proofs.YtffngbjnbigipaaGreatDoor
