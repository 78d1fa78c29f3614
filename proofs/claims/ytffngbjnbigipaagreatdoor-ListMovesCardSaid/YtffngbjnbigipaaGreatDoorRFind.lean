/- list's reader: members; list.Find: where the addresses of a text stand, for every text of at most 9 10^8 bytes. -/
import Derived.Test.YtffngbjnbigipaaGreatDoorRMember
import Derived.Test.YtffngbjnbigipaaGreatDoorListN
namespace Go.Proofs.YtffngbjnbigipaaGreatDoor
open Go.RowKit Go.Lib
set_option linter.unusedSimpArgs false
set_option linter.unusedVariables false
set_option linter.unnecessarySimpa false
set_option maxRecDepth 100000

/-- what the loop over the members comes to, as its head has it. -/
def MemsRel (B : Nat) (s : ByteArray) (mem : Nat → LSt → Option (Nat × LSt)) (R : Option (Nat × LSt)) (w : World) (n : Nat) (v4 : Value) (W : World) : Prop :=
  Below B w W ∧ B < W.heap.size ∧
  ((∃ (f k : Nat) (st : LSt), v4 = .bool true ∧ k ≤ s.size ∧ n = s.size + 1 - k ∧ st.1.length ≤ k ∧ memsE mem s.data.toList f k st = R ∧ RZ B s k st W ∧ s.size - k < f) ∨
   (v4 = .bool false ∧ n = 0 ∧ AngP B s R W))
theorem Env.low {w W : World} {B : Nat} (h : Env w) (hb : Below B w W) (hB : 8 ≤ B) : Env W := by
  obtain ⟨m, hm⟩ := h.m
  have hA := h.atx
  refine ⟨⟨(hb.cell (p := ⟨6, 0, none⟩) (by show 6 < B; omega)).trans hA.a0, (hb.cell (p := ⟨6, 1, none⟩) (by show 6 < B; omega)).trans hA.a1, (hb.cell (p := ⟨6, 2, none⟩) (by show 6 < B; omega)).trans hA.a2, (hb.cell (p := ⟨6, 3, none⟩) (by show 6 < B; omega)).trans hA.a3⟩,
    ⟨m, (hb.cell (p := ⟨3, 0, none⟩) (by show 3 < B; omega)).trans hm⟩, ?_⟩
  have hp := h.pow
  unfold Lib.TabIs at hp ⊢
  rw [← hp]
  simp only [World.var?, pow_named, Option.bind_some]
  rw [hb.block 7 (by omega)]
set_option maxHeartbeats 4000000 in
theorem members_any (within : Bool) (mem : Nat → LSt → Option (Nat × LSt)) (B : Nat) (s : ByteArray) (k : Nat) (st : LSt) (w : World) (h : RZ B s k st w) (hk : k ≤ s.size) (hs : s.size ≤ 900000000) (hE : Env w) (hB : 8 ≤ B) (hst : st.1.length ≤ k)
    (hle : InnerLe s.data.toList mem) (hln : InnerLen s.data.toList mem)
    (hM : ∀ (W : World) (k : Nat) (st : LSt), RZ B s k st W → k ≤ s.size → Env W → st.1.length ≤ k → Calls Tryz.prog 73 #[.pointer (some ⟨B, 0, none⟩), .bool within] W fun e w' => e = .returned (.tuple #[]) ∧ AngP B s (mem k st) w' ∧ Below B W w') :
    Calls Tryz.prog 36 #[.pointer (some ⟨B, 0, none⟩), .bool within] w fun e w' => e = .returned (.tuple #[]) ∧ AngP B s (memsE mem s.data.toList (s.data.toList.length + 1) k st) w' ∧ Below B w w' := by
  generalize hX : memsE mem s.data.toList (s.data.toList.length + 1) k st = R
  have HX := Lib.hid hX
  have HZ := Lib.hid h
  have HE := Lib.hid hE
  have HM := Lib.hid hM
  have HLE := Lib.hid hle
  have HLN := Lib.hid hln
  clear hX h hE hM hle hln
  go_enter Tryz.func36, Tryz.ntmps36
  go_wp2_with fail
  go_loopg [4] (s.size + 1 - k) (fun n v4 W => MemsRel B s mem R w n v4 W)
  case atStart => exact ⟨Below.refl _ _, HZ.out.lt, Or.inl ⟨s.data.toList.length + 1, k, st, rfl, hk, rfl, hst, HX.out, HZ.out, by rw [list_len]; omega⟩⟩
  case round =>
    obtain ⟨hb, hlt, ⟨f, k, st, rfl, hk, hn, hst, hX, hz, hf⟩ | ⟨rfl, hn, hA⟩⟩ := hrel
    · have HB := Lib.hid hb
      have HN0 := Lib.hid hn
      have HZ := Lib.hid hz
      have HF := Lib.hid hf
      obtain ⟨f, rfl⟩ : ∃ m, f = m + 1 := ⟨f - 1, by omega⟩
      rw [memsE] at hX
      have HC := Lib.hid (HM.out wr k st HZ.out hk (HE.out.low HB.out hB) hst)
      obtain ⟨v, hq, -⟩ := hz
      have c3 := hq.c3
      clear hb hn hf hq
      cases hm : mem k st with
      | none =>
        rw [hm] at hX HC
        simp only [AngP] at HC
        have HXN := Lib.hid (show R = none from hX.symm)
        clear hX hm
        go_wp2_with fail
        refine HC.out.mono ?_
        rintro e w2 ⟨rfl, hr2, hb2⟩
        have H2 := Lib.hid hr2
        clear hr2
        go_wp2_with fail
        refine (is_wrong' B s 44 _ H2.out).mono ?_
        rintro e w3 ⟨rfl, hr3, hb3⟩
        have H3 := Lib.hid hr3
        clear hr3
        have hlt2 : B < w2.heap.size := Nat.lt_of_lt_of_le hlt hb2.size
        go_wp2_with fail
        go_roundg 0
        case rel => exact ⟨(HB.out.trans hb2).trans (hb3.low (Nat.le_of_lt hlt2)), Nat.lt_of_lt_of_le hlt2 hb3.size, Or.inr ⟨rfl, rfl, by rw [HXN.out]; exact H3.out⟩⟩
        case measure => have := HN0.out; omega
      | some x =>
        obtain ⟨k2, st2⟩ := x
        rw [hm] at hX HC
        simp only [AngP] at HC hX
        have hk2 := HLE.out k st k2 st2 (by rw [list_len]; exact hk) hm
        rw [list_len] at hk2
        have hst2 := HLN.out k st k2 st2 (by rw [list_len]; exact hk) hst hm
        by_cases h44 : s.data.toList[k2]? = some 44
        · rw [if_pos h44] at hX
          have HXN := Lib.hid hX
          have hl2 := at_lt h44
          rw [list_len] at hl2
          clear hX hm
          go_wp2_with fail
          refine HC.out.mono ?_
          rintro e w2 ⟨rfl, hr2, hb2⟩
          obtain ⟨v2, hq, ho⟩ := hr2
          have H2 := Lib.hid hq
          have HO2 := Lib.hid ho
          clear hq ho
          go_wp2_with fail
          refine (is_at B s k2 v2 st2.2 44 _ H2.out (by omega) h44).mono ?_
          rintro e w3 ⟨rfl, hr3, hb3⟩
          have H3 := Lib.hid hr3
          clear hr3
          have hlt2 : B < w2.heap.size := Nat.lt_of_lt_of_le hlt hb2.size
          go_wp2_with fail
          go_roundg (s.size + 1 - (k2 + 1))
          case rel => exact ⟨(HB.out.trans hb2).trans (hb3.low (Nat.le_of_lt hlt2)), Nat.lt_of_lt_of_le hlt2 hb3.size, Or.inl ⟨f, k2 + 1, st2, rfl, by omega, rfl, by omega, HXN.out, ⟨v2, H3.out, own_but HO2.out hb3⟩, by have := HF.out; omega⟩⟩
          case measure => have := HN0.out; omega
        · rw [if_neg h44] at hX
          have HXN := Lib.hid (show R = some (k2, st2) from hX.symm)
          clear hX hm
          go_wp2_with fail
          refine HC.out.mono ?_
          rintro e w2 ⟨rfl, hr2, hb2⟩
          obtain ⟨v2, hq, ho⟩ := hr2
          have H2 := Lib.hid hq
          have HO2 := Lib.hid ho
          clear hq ho
          go_wp2_with fail
          refine (is_not B s k2 v2 st2.2 44 _ H2.out hk2.2 (by omega) h44).mono ?_
          rintro e w3 ⟨rfl, hb3⟩
          have hlt2 : B < w2.heap.size := Nat.lt_of_lt_of_le hlt hb2.size
          go_wp2_with fail
          go_roundg 0
          case rel => exact ⟨(HB.out.trans hb2).trans ((But.of_below (B := B) hb3).low (Nat.le_of_lt hlt2)), Nat.lt_of_lt_of_le hlt2 hb3.size, Or.inr ⟨rfl, rfl, by rw [HXN.out]; exact ⟨v2, H2.out.below hb3, own_but HO2.out (But.of_below hb3)⟩⟩⟩
          case measure => have := HN0.out; omega
    · have HB := Lib.hid hb
      have HA := Lib.hid hA
      clear hb hA hn
      go_wp2
      go_end0
      exact ⟨rfl, HA.out, HB.out⟩
theorem member_T (B : Nat) (s : ByteArray) (hs : s.size ≤ 900000000) (hB : 8 ≤ B) (W : World) (k : Nat) (st : LSt) (h : RZ B s k st W) (hk : k ≤ s.size) (hE : Env W) (hst : st.1.length ≤ k) :
    Calls Tryz.prog 73 #[.pointer (some ⟨B, 0, none⟩), .bool true] W fun e w' => e = .returned (.tuple #[]) ∧ AngP B s (memT s.data.toList k st) w' ∧ Below B W w' :=
  member_any true _ B s k st W h hk hs hE hB hst (fun h => by cases h) (fun h => by cases h)
theorem members_T (B : Nat) (s : ByteArray) (hs : s.size ≤ 900000000) (hB : 8 ≤ B) (W : World) (k : Nat) (st : LSt) (hst : st.1.length ≤ k) (h : RZ B s k st W) (hk : k ≤ s.size) (hE : Env W) :
    Calls Tryz.prog 36 #[.pointer (some ⟨B, 0, none⟩), .bool true] W fun e w' => e = .returned (.tuple #[]) ∧ AngP B s (memsT s.data.toList k st) w' ∧ Below B W w' :=
  members_any true (memT s.data.toList) B s k st W h hk hs hE hB hst (memT_le _) (memT_len _) (fun W k st h hk hE hst => member_T B s hs hB W k st h hk hE hst)
theorem member_F (B : Nat) (s : ByteArray) (hs : s.size ≤ 900000000) (hB : 8 ≤ B) (W : World) (k : Nat) (st : LSt) (h : RZ B s k st W) (hk : k ≤ s.size) (hE : Env W) (hst : st.1.length ≤ k) :
    Calls Tryz.prog 73 #[.pointer (some ⟨B, 0, none⟩), .bool false] W fun e w' => e = .returned (.tuple #[]) ∧ AngP B s (memF s.data.toList k st) w' ∧ Below B W w' :=
  member_any false _ B s k st W h hk hs hE hB hst (fun _ => rfl) (fun _ W k hst h hk hE => members_T B s hs hB W k st hst h hk hE)
theorem members_F (B : Nat) (s : ByteArray) (hs : s.size ≤ 900000000) (hB : 8 ≤ B) (W : World) (k : Nat) (st : LSt) (hst : st.1.length ≤ k) (h : RZ B s k st W) (hk : k ≤ s.size) (hE : Env W) :
    Calls Tryz.prog 36 #[.pointer (some ⟨B, 0, none⟩), .bool false] W fun e w' => e = .returned (.tuple #[]) ∧ AngP B s (memsF s.data.toList k st) w' ∧ Below B W w' :=
  members_any false (memF s.data.toList) B s k st W h hk hs hE hB hst (memF_le _) (memF_len _) (fun W k st h hk hE hst => member_F B s hs hB W k st h hk hE hst)
/-- the spots of a text lie in memory of the call's own. -/
def Spots (w : World) (v : Value) (l : List Sp) : Prop := ∃ B, w.ownsRow B 32 4 v l.length (spsC l)
theorem RS.of {B : Nat} {s : ByteArray} {t : TypeId} {W : World} (h : W.heap[B]? = some (.cells #[.string s, .int .i64 0, .slice none 0 0, .bool false, .bool false] t (0, 0))) : RS B s 0 (.slice none 0 0) false false W := by
  refine ⟨(Array.getElem?_eq_some_iff.1 h).1, ?_, ?_, ?_, ?_, ?_, fun o ho => ?_⟩
  · simp [World.cell?, h]
  · simp [World.cell?, h]
  · simp [World.cell?, h]
  · simp [World.cell?, h]
  · simp [World.cell?, h]
  · obtain rfl | rfl | rfl | rfl | rfl : o = 0 ∨ o = 1 ∨ o = 2 ∨ o = 3 ∨ o = 4 := by omega
    all_goals simp [World.frozen?, h]
theorem RS.made (w : World) (s : ByteArray) (t : TypeId) : RS w.heap.size s 0 (.slice none 0 0) false false (w.alloc (.cells #[.string s, .int .i64 0, .slice none 0 0, .bool false, .bool false] t)) := RS.of (heap_alloc_new w _)
theorem Env.top {w : World} (h : Env w) : 8 ≤ w.heap.size := World.block_lt_of_cell? w ⟨7, 0, none⟩ (Lib.TabIs.cell h.pow pow_named 0 (by decide))
set_option maxHeartbeats 2000000 in
theorem Find_any (s : ByteArray) (hs : s.size ≤ 900000000) (w : World) (hE : Env w) :
    Calls Tryz.prog 11 #[.string s] w fun e w' => (∃ v, e = .returned (.tuple #[v, .int .i64 ((findL s.data.toList).2 : Int)]) ∧ Spots w' v (findL s.data.toList).1) ∧ Below w.heap.size w w' := by
  have hw := hE.top
  have hb0 := alloc_below w (.cells #[.string s, .int .i64 0, .slice none 0 0, .bool false, .bool false] 70)
  have hR := RS.made w s 70
  have hZ : RZ w.heap.size s 0 ([], false) (w.alloc (.cells #[.string s, .int .i64 0, .slice none 0 0, .bool false, .bool false] 70)) := ⟨_, hR, World.ownsRow_nil _ _ _ _⟩
  have HC := Lib.hid (members_F w.heap.size s hs hw _ 0 ([], false) (Nat.zero_le _) hZ (Nat.zero_le _) (hE.below hb0))
  have HB0 := Lib.hid hb0
  have hF : findL s.data.toList = findL s.data.toList := rfl
  conv at hF => rhs; unfold findL
  generalize findL s.data.toList = F at hF ⊢
  obtain ⟨L, er⟩ := F
  simp only
  clear hb0 hR hZ hE
  cases hm : memsF s.data.toList 0 ([], false) with
  | none =>
    rw [hm] at HC hF
    simp only [AngP] at HC hF
    injection hF with h1 h2
    subst h1; subst h2
    go_enter Tryz.func11, Tryz.ntmps11
    go_wp2_with fail
    refine HC.out.mono ?_
    rintro e w2 ⟨rfl, hr2, hb2⟩
    obtain ⟨k, v, long, hk, hq⟩ := hr2
    have c3 := hq.c3
    clear hq
    go_wp2
    go_ret2
    exact ⟨⟨_, rfl, 0, World.ownsRow_nil _ _ _ _⟩, HB0.out.trans hb2⟩
  | some x =>
    obtain ⟨k, sp, long⟩ := x
    rw [hm] at HC hF
    simp only [AngP] at HC hF
    have hkl := (memsF_le s.data.toList _ _ _ _ (Nat.zero_le _) hm).2
    rw [list_len] at hkl hF
    have HF := Lib.hid hF
    have hk0 : (0 : Int) ≤ (k : Int) := by omega
    clear hF hm
    go_enter Tryz.func11, Tryz.ntmps11
    go_wp2_with fail
    refine HC.out.mono ?_
    rintro e w2 ⟨rfl, ⟨v, hq, ho⟩, hb2⟩
    have HO := Lib.hid ho
    obtain ⟨-, c0, c1, c2, c3, c4, -⟩ := hq
    clear ho
    by_cases hk : k ≠ s.size
    · have hlt : (k : Int) < (s.size : Int) := by omega
      have hF := HF.out
      rw [if_pos hk] at hF
      injection hF with h1 h2
      subst h1; subst h2
      clear hk
      go_wp2
      go_ret2
      exact ⟨⟨_, rfl, 0, World.ownsRow_nil _ _ _ _⟩, HB0.out.trans hb2⟩
    · have hlt : ¬ (k : Int) < (s.size : Int) := by omega
      have hF := HF.out
      rw [if_neg hk] at hF
      have HF2 := Lib.hid hF
      clear hk hF
      cases long with
      | true =>
        have hF := HF2.out
        simp only [if_true] at hF
        injection hF with h1 h2
        subst h1; subst h2
        go_wp2
        go_ret2
        exact ⟨⟨_, rfl, 0, World.ownsRow_nil _ _ _ _⟩, HB0.out.trans hb2⟩
      | false =>
        have hF := HF2.out
        simp only [Bool.false_eq_true, if_false] at hF
        obtain ⟨q, cap, rfl⟩ : ∃ q cap, v = .slice q sp.length cap := by
          obtain ⟨_, ⟨rfl, h⟩ | ⟨g, cap, cur, rfl, _⟩⟩ := HO.out
          · exact ⟨none, 0, by rw [h]⟩
          · exact ⟨_, _, rfl⟩
        by_cases h64 : 64 < sp.length
        · rw [if_pos h64] at hF
          injection hF with h1 h2
          subst h1; subst h2
          have h64i : (64 : Int) < (sp.length : Int) := by omega
          go_wp2
          go_ret2
          exact ⟨⟨_, rfl, 0, World.ownsRow_nil _ _ _ _⟩, HB0.out.trans hb2⟩
        · rw [if_neg h64] at hF
          injection hF with h1 h2
          subst h1; subst h2
          have h64i : ¬ (64 : Int) < (L.length : Int) := by omega
          go_wp2
          go_ret2
          exact ⟨⟨_, rfl, _, HO.out⟩, HB0.out.trans hb2⟩
end Go.Proofs.YtffngbjnbigipaaGreatDoor
