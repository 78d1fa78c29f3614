/- The document's lists: its functions members and Find, for every text of at most 9 10^8 bytes; the spots as they are read. -/
import Derived.Test.YtffngbjnbigipaaGreatDoorRefM
import Derived.Test.YtffngbjnbigipaaGreatDoorSpots
namespace Go.Proofs.YtffngbjnbigipaaGreatDoor
open Go.RowKit Go.Lib
set_option linter.unusedSimpArgs false
set_option linter.unusedVariables false
set_option linter.unnecessarySimpa false
set_option maxRecDepth 100000

def MsRel (B : Nat) (s : ByteArray) (mem : Nat → LSt → Option (Nat × LSt)) (R : Option (Nat × LSt)) (w : World) (n : Nat) (v2 : Value) (W : World) : Prop :=
  Below B w W ∧ ∃ (f k : Nat) (st : LSt), v2 = .int .i64 (k : Int) ∧ k ≤ s.size ∧ n = s.size + 1 - k ∧ st.1.length ≤ k ∧ memsE mem s.data.toList f k st = R ∧ RO B st W ∧ s.size - k < f
set_option maxHeartbeats 4000000 in
theorem members_ref (within : Bool) (mem : Nat → LSt → Option (Nat × LSt)) (B : Nat) (s : ByteArray) (k : Nat) (st : LSt) (w : World) (h : RO B st w) (hk : k ≤ s.size) (hs : s.size ≤ 900000000) (hst : st.1.length ≤ k)
    (hle : InnerLe s.data.toList mem) (hln : InnerLen s.data.toList mem)
    (hM : ∀ (W : World) (k : Nat) (st : LSt), RO B st W → k ≤ s.size → st.1.length ≤ k → Calls Tryz.prog 74 #[.pointer (some ⟨B, 0, none⟩), .string s, .int .i64 (k : Int), .bool within] W fun e w' => e = .returned (.int .i64 (endP (mem k st))) ∧ AdP B (mem k st) w' ∧ Below B W w') :
    Calls Tryz.prog 37 #[.pointer (some ⟨B, 0, none⟩), .string s, .int .i64 (k : Int), .bool within] w fun e w' => e = .returned (.int .i64 (endP (memsE mem s.data.toList (s.data.toList.length + 1) k st))) ∧ AdP B (memsE mem s.data.toList (s.data.toList.length + 1) k st) w' ∧ Below B w w' := by
  generalize hX : memsE mem s.data.toList (s.data.toList.length + 1) k st = R
  have HX := Lib.hid hX
  have HZ := Lib.hid h
  have HM := Lib.hid hM
  have HLE := Lib.hid hle
  have HLN := Lib.hid hln
  clear hX h hM hle hln
  go_enter Tryz.func37, Tryz.ntmps37
  go_wp2_with fail
  go_loopg [2] (s.size + 1 - k) (fun n v2 W => MsRel B s mem R w n v2 W)
  case atStart => exact ⟨Below.refl _ _, s.data.toList.length + 1, k, st, rfl, hk, rfl, hst, HX.out, HZ.out, by rw [list_len]; omega⟩
  case round =>
    obtain ⟨hb, f, k, st, rfl, hk, hn, hst, hX, hz, hf⟩ := hrel
    have HB := Lib.hid hb
    have HN0 := Lib.hid hn
    have HF := Lib.hid hf
    obtain ⟨f, rfl⟩ : ∃ m, f = m + 1 := ⟨f - 1, by omega⟩
    rw [memsE] at hX
    have HC := Lib.hid (HM.out wr k st hz hk hst)
    clear hb hn hf hz
    cases hm : mem k st with
    | none =>
      rw [hm] at hX HC
      simp only [endP, AdP] at HC
      have HRN := Lib.hid (show R = none from hX.symm)
      clear hX hm
      go_wp2_with fail
      refine HC.out.mono ?_
      rintro e w2 ⟨rfl, hr2, hb2⟩
      clear hr2
      go_wp2
      go_ret
      rw [HRN.out]
      exact ⟨rfl, trivial, HB.out.trans hb2⟩
    | some x =>
      obtain ⟨k2, st2⟩ := x
      rw [hm] at hX HC
      simp only [endP, AdP] at HC hX
      have hk2 := HLE.out k st k2 st2 (by rw [list_len]; exact hk) hm
      rw [list_len] at hk2
      have hst2 := HLN.out k st k2 st2 (by rw [list_len]; exact hk) hst hm
      have hn2 : ¬ (k2 : Int) < 0 := by omega
      have HA := Lib.hid (fun W => at_ref s k2 (by omega) (by omega) W)
      have hw2 : IntKind.i64.wrap ((k2 : Int) + 1) = ((k2 + 1 : Nat) : Int) := by rw [IntKind.wrap_i64]; omega
      by_cases h44 : s.data.toList[k2]? = some 44
      · rw [if_pos h44] at hX
        rw [nextB_yes h44] at HA
        have hq : (((44 : UInt8).toNat : Int) != 44) = false := rfl
        have HXN := Lib.hid hX
        have hl2 := at_lt h44
        rw [list_len] at hl2
        clear hX hm h44
        go_wp2_with fail
        refine HC.out.mono ?_
        rintro e w2 ⟨rfl, hr2, hb2⟩
        have H2 := Lib.hid hr2
        clear hr2
        go_wp2_with fail
        refine (HA.out _).mono ?_
        rintro e w3 ⟨rfl, hw3⟩
        rw [hw3]
        clear hw3
        go_wp2_with fail
        go_roundg (s.size + 1 - (k2 + 1))
        case rel => exact ⟨HB.out.trans hb2, f, k2 + 1, st2, rfl, by omega, rfl, by omega, HXN.out, H2.out, by have := HF.out; omega⟩
        case measure => have := HN0.out; omega
      · rw [if_neg h44] at hX
        have hq : ((nextB s.data.toList k2 : Int) != 44) = true := by have := int_ne (nextB_no h44 (by decide)); simpa [bne] using this
        generalize nextB s.data.toList k2 = nb at HA hq
        have HXN := Lib.hid (show R = some (k2, st2) from hX.symm)
        clear hX hm h44
        go_wp2_with fail
        refine HC.out.mono ?_
        rintro e w2 ⟨rfl, hr2, hb2⟩
        have H2 := Lib.hid hr2
        clear hr2
        go_wp2_with fail
        refine (HA.out _).mono ?_
        rintro e w3 ⟨rfl, hw3⟩
        rw [hw3]
        clear hw3
        go_wp2
        go_ret
        rw [HXN.out]
        exact ⟨rfl, H2.out, HB.out.trans hb2⟩
theorem membersR_T (B : Nat) (s : ByteArray) (hs : s.size ≤ 900000000) (W : World) (k : Nat) (st : LSt) (hst : st.1.length ≤ k) (h : RO B st W) (hk : k ≤ s.size) :
    Calls Tryz.prog 37 #[.pointer (some ⟨B, 0, none⟩), .string s, .int .i64 (k : Int), .bool true] W fun e w' => e = .returned (.int .i64 (endP (memsT s.data.toList k st))) ∧ AdP B (memsT s.data.toList k st) w' ∧ Below B W w' :=
  members_ref true (memT s.data.toList) B s k st W h hk hs hst (memT_le _) (memT_len _) (fun W k st h hk hst => member_ref true _ B s k st W h hk hs hst (fun h => by cases h) (fun h => by cases h))
theorem membersR_F (B : Nat) (s : ByteArray) (hs : s.size ≤ 900000000) (W : World) (k : Nat) (st : LSt) (hst : st.1.length ≤ k) (h : RO B st W) (hk : k ≤ s.size) :
    Calls Tryz.prog 37 #[.pointer (some ⟨B, 0, none⟩), .string s, .int .i64 (k : Int), .bool false] W fun e w' => e = .returned (.int .i64 (endP (memsF s.data.toList k st))) ∧ AdP B (memsF s.data.toList k st) w' ∧ Below B W w' :=
  members_ref false (memF s.data.toList) B s k st W h hk hs hst (memF_le _) (memF_len _) (fun W k st h hk hst => member_ref false _ B s k st W h hk hs hst (fun _ => rfl) (fun _ W k hst h hk => membersR_T B s hs W k st hst h hk))
theorem RR.of {B : Nat} {t : TypeId} {W : World} (h : W.heap[B]? = some (.cells #[.slice none 0 0, .bool false] t (0, 0))) : RR B (.slice none 0 0) false W := by
  refine ⟨(Array.getElem?_eq_some_iff.1 h).1, ?_, ?_, fun o ho => ?_⟩
  · simp [World.cell?, h]
  · simp [World.cell?, h]
  · obtain rfl | rfl : o = 0 ∨ o = 1 := by omega
    all_goals simp [World.frozen?, h]
theorem RR.made (w : World) (t : TypeId) : RR w.heap.size (.slice none 0 0) false (w.alloc (.cells #[.slice none 0 0, .bool false] t)) := RR.of (heap_alloc_new w _)
theorem SRow.ofR {w : World} {v : Value} {l : List Sp} {B : Nat} (ho : w.ownsRow B 35 4 v l.length (spsC l)) : SRow w v l := by
  have hc := fun (g : Nat) (hg : v.ownBlock = some g) => World.ownsRow.cells ho (g := g) hg
  obtain ⟨_, ⟨rfl, h0⟩ | ⟨g, cap, cur, rfl, _⟩⟩ := ho
  · exact ⟨none, 0, by rw [h0], .inl (List.eq_nil_of_length_eq_zero h0)⟩
  · refine ⟨_, cap, rfl, .inr ⟨g, rfl, fun i x hx => ?_⟩⟩
    have hadd : ∀ j, (⟨g, 0, none⟩ : Addr).add j = ⟨g, j, none⟩ := fun j => by unfold Addr.add; split <;> simp_all
    have key : ∀ j u, j < 4 → (spC x)[j]? = some u → w.cell? ⟨g, i * 4 + j, none⟩ = some u := fun j u hj hu => by
      have := hc g rfl (i * 4 + j) u (by rw [spsC_get l i j x hx hj]; exact hu)
      rwa [hadd] at this
    exact ⟨key 0 _ (by omega) rfl, key 1 _ (by omega) rfl, key 2 _ (by omega) rfl, key 3 _ (by omega) rfl⟩
set_option maxHeartbeats 4000000 in
theorem Find_ref (s : ByteArray) (hs : s.size ≤ 900000000) (w : World) :
    Calls Tryz.prog 12 #[.string s] w fun e w' => (∃ v, e = .returned (.tuple #[v, .int .i64 ((findL s.data.toList).2 : Int)]) ∧ SRow w' v (findL s.data.toList).1) ∧ Below w.heap.size w w' := by
  have hb0 := alloc_below w (.cells #[.slice none 0 0, .bool false] 74)
  have hR := RR.made w 74
  have hZ : RO w.heap.size ([], false) (w.alloc (.cells #[.slice none 0 0, .bool false] 74)) := ⟨_, hR, World.ownsRow_nil _ _ _ _⟩
  have HC := Lib.hid (membersR_F w.heap.size s hs _ 0 ([], false) (Nat.zero_le _) hZ (Nat.zero_le _))
  have HB0 := Lib.hid hb0
  have hF : findL s.data.toList = findL s.data.toList := rfl
  conv at hF => rhs; unfold findL
  generalize findL s.data.toList = F at hF ⊢
  obtain ⟨L, er⟩ := F
  simp only
  clear hb0 hR hZ
  cases hm : memsF s.data.toList 0 ([], false) with
  | none =>
    rw [hm] at HC hF
    simp only [endP, AdP] at HC hF
    have hne : ((-1 : Int) != (s.size : Int)) = true := by rw [bne_iff_ne]; omega
    injection hF with h1 h2
    subst h1; subst h2
    go_enter Tryz.func12, Tryz.ntmps12
    go_wp2_with fail
    refine HC.out.mono ?_
    rintro e w2 ⟨rfl, -, hb2⟩
    go_wp2
    go_ret2
    exact ⟨⟨_, rfl, .ofR (World.ownsRow_nil _ 0 _ _)⟩, HB0.out.trans hb2⟩
  | some x =>
    obtain ⟨k, sp, long⟩ := x
    rw [hm] at HC hF
    simp only [endP, AdP] at HC hF
    rw [list_len] at hF
    have HF := Lib.hid hF
    clear hF hm
    go_enter Tryz.func12, Tryz.ntmps12
    go_wp2_with fail
    refine HC.out.mono ?_
    rintro e w2 ⟨rfl, ⟨v, hq, ho⟩, hb2⟩
    have HO := Lib.hid ho
    obtain ⟨-, c0, c1, -⟩ := hq
    clear ho
    by_cases hk : k ≠ s.size
    · have hne : ((k : Int) != (s.size : Int)) = true := by rw [bne_iff_ne]; omega
      have hF := HF.out
      rw [if_pos hk] at hF
      injection hF with h1 h2
      subst h1; subst h2
      clear hk
      go_wp2
      go_ret2
      exact ⟨⟨_, rfl, .ofR (World.ownsRow_nil _ 0 _ _)⟩, HB0.out.trans hb2⟩
    · have hne : ((k : Int) != (s.size : Int)) = false := by rw [bne_eq_false_iff_eq]; omega
      have hF := HF.out
      rw [if_neg hk] at hF
      have HF2 := Lib.hid hF
      clear hk hF
      cases long with
      | true =>
        have hF := HF2.out
        simp only [if_true] at hF
        injection hF with h1 h2
        subst h1; subst h2
        go_wp2
        go_ret2
        exact ⟨⟨_, rfl, .ofR (World.ownsRow_nil _ 0 _ _)⟩, HB0.out.trans hb2⟩
      | false =>
        have hF := HF2.out
        simp only [Bool.false_eq_true, if_false] at hF
        obtain ⟨q, cap, rfl⟩ : ∃ q cap, v = .slice q sp.length cap := by
          obtain ⟨_, ⟨rfl, h⟩ | ⟨g, cap, cur, rfl, _⟩⟩ := HO.out
          · exact ⟨none, 0, by rw [h]⟩
          · exact ⟨_, _, rfl⟩
        by_cases h64 : 64 < sp.length
        · rw [if_pos h64] at hF
          injection hF with h1 h2
          subst h1; subst h2
          have h64i : (64 : Int) < (sp.length : Int) := by omega
          go_wp2
          go_ret2
          exact ⟨⟨_, rfl, .ofR (World.ownsRow_nil _ 0 _ _)⟩, HB0.out.trans hb2⟩
        · rw [if_neg h64] at hF
          injection hF with h1 h2
          subst h1; subst h2
          have h64i : ¬ (64 : Int) < (L.length : Int) := by omega
          go_wp2
          go_ret2
          exact ⟨⟨_, rfl, .ofR HO.out⟩, HB0.out.trans hb2⟩
theorem Find_refrow (s : ByteArray) (hs : s.size ≤ 900000000) (w : World) :
    Calls Tryz.prog 12 #[.string s] w fun e w' => ∃ v, e = .returned (.tuple #[v, .int .i64 ((findL s.data.toList).2 : Int)]) ∧ SRow w' v (findL s.data.toList).1 ∧ Below w.heap.size w w' :=
  (Find_ref s hs w).mono fun _ _ ⟨⟨v, h1, h2⟩, h3⟩ => ⟨v, h1, h2, h3⟩
end Go.Proofs.YtffngbjnbigipaaGreatDoor
