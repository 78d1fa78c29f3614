/- forward.Text: what it hands back. -/
import Derived.Test.YtkoncmmbdlnmfaaGreatDoorLinM
import Derived.Test.YtkoncmmbdlnmfaaGreatDoorTexT
namespace Go.Proofs.YtkoncmmbdlnmfaaGreatDoor
open Go.RowKit Go.Lib
set_option linter.unusedSimpArgs false
set_option linter.unusedVariables false
set_option linter.unnecessarySimpa false
set_option maxRecDepth 100000

theorem textI_len (t : TI) : (textI t).length ≤ 2 * t.2.1.1.length + t.2.1.2.length + t.2.2.length + 20 := by
  unfold textI
  split
  · have h1 := text_len_le' t.2.1
    unfold tellF
    split
    · omega
    · split
      · simp only [List.length_append, List.length_cons, failL, List.length_nil]; omega
      · split
        · have : (begL t.1.toNat).length ≤ 9 := by
            unfold begL
            repeat' split
            all_goals decide
          rw [List.length_append]; omega
        · omega
  · simp
/-- what Text hands back. -/
def fTx (l : List TI) : List UInt8 × Bool := if l.all okI = true ∧ l ≠ [] ∧ l.length ≤ 16 then (joinC (l.map textI) ++ [10], true) else ([], false)
theorem fTx_bad {l : List TI} {t : TI} (h : t ∈ l) (ht : okI t = false) : fTx l = ([], false) := by
  unfold fTx
  rw [if_neg]
  rintro ⟨h1, -⟩
  rw [List.all_eq_true] at h1
  rw [h1 t h] at ht
  cases ht
theorem joinC_len : ∀ (l : List (List UInt8)) (N : Nat), (∀ x ∈ l, x.length ≤ N) → (joinC l).length ≤ l.length * (N + 2)
  | [], N, _ => by simp [joinC]
  | [x], N, h => by
    have := h x List.mem_cons_self
    simp only [joinC, List.length_cons, List.length_nil]
    omega
  | x :: y :: r, N, h => by
    have h1 := h x List.mem_cons_self
    have h2 := joinC_len (y :: r) N (fun z hz => h z (List.mem_cons_of_mem _ hz))
    have e : (x :: y :: r).length * (N + 2) = (y :: r).length * (N + 2) + (N + 2) := by rw [List.length_cons, Nat.add_mul, Nat.one_mul]
    rw [e]
    simp only [joinC, List.length_append, List.length_cons] at h2 ⊢
    omega
theorem joinC_eq : ∀ l : List (List UInt8), Lib.join l [44, 32] = joinC l
  | [] => rfl
  | [x] => by simp [Lib.join, joinC, List.intercalate]
  | x :: y :: l => by
    have ih := joinC_eq (y :: l)
    have e1 : joinC (x :: y :: l) = x ++ 44 :: 32 :: joinC (y :: l) := rfl
    rw [e1, ← ih]
    simp [Lib.join, List.intercalate]
def TxRel (l : List TI) (w : World) (g : Nat) (v4 v10 : Value) (W : World) : Prop :=
  ∃ i : Nat, v10 = .int .i64 (i : Int) ∧ i ≤ l.length ∧ g = l.length - i ∧ (∀ t ∈ l.take i, okI t = true) ∧ W.ownsRow w.heap.size 9 1 v4 i ((l.take i).map fun t => strV (textI t)) ∧ Below w.heap.size w W
set_option maxHeartbeats 16000000 in
theorem Text_fwd (l : List TI) (v : Value) (w : World) (hrow : GRow 4 tiC w v l) (hl : l.length ≤ 100000) (hsz : ∀ t ∈ l, t.2.1.1.length ≤ 1000000 ∧ t.2.1.2.length ≤ 1000000 ∧ t.2.2.length ≤ 1000000) (hE : Env w) (hB : Begs w) :
    Calls Tryz.prog 17 #[v] w fun e w' => e = .returned (.tuple #[.string ⟨(fTx l).1.toArray⟩, .bool (fTx l).2]) ∧ Below w.heap.size w w' := by
  have HBAD := Lib.hid (fun t h ht => fTx_bad (l := l) (t := t) h ht)
  have hfin : fTx l = if l.all okI = true ∧ l ≠ [] ∧ l.length ≤ 16 then (joinC (l.map textI) ++ [10], true) else ([], false) := rfl
  generalize fTx l = R at HBAD hfin ⊢
  have HFIN := Lib.hid hfin
  have HROW := Lib.hid hrow
  have HE := Lib.hid hE
  have HB := Lib.hid hB
  have HSZ := Lib.hid hsz
  obtain ⟨p, cap, rfl, -⟩ := hrow
  clear hfin hE hB hsz
  go_enter Tryz.func17, Tryz.ntmps17
  go_wp2_with fail
  go_loopg [4, 10] l.length (fun g v4 v10 W => TxRel l w g v4 v10 W)
  case atStart => exact ⟨0, rfl, Nat.zero_le _, rfl, fun t ht => by simp at ht, World.ownsRow_nil _ _ _ _, Below.refl _ _⟩
  case round =>
    obtain ⟨i, rfl, hi, hg, hok, hown, hb⟩ := hrel
    have HG := Lib.hid hg
    have HOK := Lib.hid hok
    have HO := Lib.hid hown
    have HBW := Lib.hid hb
    clear hg hok hown hb
    by_cases hlt : i < l.length
    · have hi0 : (0 : Int) ≤ (i : Int) := by omega
      have hi1 : (i : Int) < (l.length : Int) := by omega
      have hwk : IntKind.i64.wrap ((i : Int) + 1) = (i : Int) + 1 := by rw [IntKind.wrap_i64]; omega
      have hx := List.getElem?_eq_getElem hlt
      obtain ⟨T, hT⟩ : ∃ T, l[i] = T := ⟨_, rfl⟩
      rw [hT] at hx
      have hmem : T ∈ l := by rw [← hT]; exact List.getElem_mem hlt
      have hts := HSZ.out T hmem
      have HMEM := Lib.hid hmem
      have HTK := Lib.hid (show l.take (i + 1) = l.take i ++ [T] by rw [List.take_add_one, hx]; rfl)
      obtain ⟨p', cap', he, h⟩ := HROW.out.below HBW.out
      obtain rfl : cap = cap' := by injection he
      obtain rfl : p = p' := by injection he
      obtain ⟨b, o, hpb, hc⟩ := grow_at h hlt
      subst hpb
      clear he h
      obtain ⟨k, ⟨a, b'⟩, n⟩ := T
      have d0 := hc i _ hx 0 (.int .i64 k) rfl
      have d1 := hc i _ hx 1 (.string ⟨a.toArray⟩) rfl
      have d2 := hc i _ hx 2 (.string ⟨b'.toArray⟩) rfl
      have d3 := hc i _ hx 3 (.string ⟨n.toArray⟩) rfl
      rw [Nat.add_zero] at d0
      have HFB := Lib.hid (HBAD.out _ hmem)
      have HOI := Lib.hid (show okI (k, (a, b'), n) = (!(textI (k, (a, b'), n)).isEmpty && (textI (k, (a, b'), n)).head? != some 35 && !(textI (k, (a, b'), n)).contains 34 && decide (1 ≤ k) && decide (k ≤ 4)) from rfl)
      have HB0 := Lib.hid (alloc_below wr (.cells #[.int .i64 k, .string ⟨a.toArray⟩, .string ⟨b'.toArray⟩, .string ⟨n.toArray⟩] 28))
      have HF := Lib.hid (Four4.made wr (.int .i64 k) (.string ⟨a.toArray⟩) (.string ⟨b'.toArray⟩) (.string ⟨n.toArray⟩) 28)
      obtain ⟨wy, hwy⟩ : ∃ wy, wr.alloc (.cells #[.int .i64 k, .string ⟨a.toArray⟩, .string ⟨b'.toArray⟩, .string ⟨n.toArray⟩] 28) = wy := ⟨_, rfl⟩
      rw [hwy] at HB0 HF
      have HBY := Lib.hid (HBW.out.trans (HB0.out.mono HBW.out.size))
      have HTX := Lib.hid (TText_any (k, (a, b'), n) hts.1 hts.2.1 hts.2.2 wy (HE.out.below HBY.out) (HB.out.below HBY.out))
      have HMY := Lib.hid (fun W => may_any k ⟨a.toArray⟩ ⟨b'.toArray⟩ ⟨n.toArray⟩ W)
      have HOY := Lib.hid (own_low HO.out HB0.out)
      have hXl := textI_len (k, (a, b'), n)
      simp only [tiV, tiC] at HTX
      obtain ⟨O, hO⟩ : ∃ O, okI (k, (a, b'), n) = O := ⟨_, rfl⟩
      rw [hO] at HFB HOI
      have HOO := Lib.hid hO
      obtain ⟨X, hX⟩ : ∃ X, textI (k, (a, b'), n) = X := ⟨_, rfl⟩
      rw [hX] at HTX HOI hXl
      have HXX := Lib.hid hX
      have HCT := Lib.hid (fun W => Tryz.strings_Contains_one ⟨X.toArray⟩ 34 W)
      rw [show (⟨X.toArray⟩ : ByteArray).data.toList = X from rfl, has_at] at HCT
      obtain ⟨⟨-, e0, e1, e2, e3⟩, -⟩ := HF.out
      clear hc hx hT hmem hO hX hts
      go_wp2_with fail
      refine HTX.out.mono ?_
      rintro e w3 ⟨rfl, hb3⟩
      have HF3 := Lib.hid (HF.out.below hb3)
      have HO3 := Lib.hid (own_low HOY.out hb3)
      have HB3 := Lib.hid (HBY.out.trans (hb3.mono HBY.out.size))
      clear hb3 e0 e1 e2 e3 d0 d1 d2 d3
      obtain ⟨⟨-, e0, e1, e2, e3⟩, -⟩ := HF3.out
      by_cases hX0 : X = []
      · subst hX0
        obtain rfl : O = false := HOI.out
        obtain rfl : R = ([], false) := HFB.out rfl
        go_wp2
        go_ret2
        exact ⟨rfl, HB3.out⟩
      · obtain ⟨x, X', rfl⟩ := List.exists_cons_of_ne_nil hX0
        have hsX : (⟨(x :: X').toArray⟩ : ByteArray).size = X'.length + 1 := rfl
        have hX1 : (⟨(x :: X').toArray⟩ : ByteArray)[0]'(by rw [hsX]; omega) = x := rfl
        by_cases h35 : x = 35
        · subst h35
          obtain rfl : O = false := by rw [HOI.out]; simp
          obtain rfl : R = ([], false) := HFB.out rfl
          go_wp2
          go_ret2
          exact ⟨rfl, HB3.out⟩
        · have n35 : ((x.toNat : Int) == 35) = false := by
            rw [beq_eq_false_iff_ne]
            intro e
            exact h35 (UInt8.toNat_inj.1 (show x.toNat = (35 : UInt8).toNat from by show x.toNat = 35; omega))
          obtain ⟨C, hC⟩ : ∃ C, (x :: X').contains 34 = C := ⟨_, rfl⟩
          rw [hC] at HCT HOI
          have hO2 : O = (!C && decide (1 ≤ k) && decide (k ≤ 4)) := by
            rw [HOI.out]
            have : (some x != some 35) = true := by rw [bne_iff_ne]; intro e; injection e with e; exact h35 e
            simp [this]
          have HO2 := Lib.hid hO2
          clear hC hO2
          go_wp2_with fail
          refine (HCT.out _).mono ?_
          rintro e w4 ⟨rfl, rfl⟩
          cases C with
          | true =>
            obtain rfl : O = false := HO2.out
            obtain rfl : R = ([], false) := HFB.out rfl
            go_wp2
            go_ret2
            exact ⟨rfl, HB3.out⟩
          | false =>
            have hO2 : O = (decide (1 ≤ k) && decide (k ≤ 4)) := HO2.out
            rw [← hO2] at HMY
            clear hO2
            go_wp2_with fail
            refine (HMY.out _).mono ?_
            rintro e w5 ⟨rfl, hb5⟩
            have HB5 := Lib.hid (HB3.out.trans (hb5.mono HB3.out.size))
            have hown5 := own_low HO3.out hb5
            have hbs := HB5.out.size
            clear hb5
            cases O with
            | false =>
              obtain rfl : R = ([], false) := HFB.out rfl
              go_wp2
              go_ret2
              exact ⟨rfl, HB5.out⟩
            | true =>
              go_wp2_with (first | (at_builtin; refine app_str rfl _ _ rfl w.heap.size _ _ _ rfl (World.ownsRow.alloc (w := w5) hown5 _) ⟨w5.heap.size, 0, none⟩ 1 (.string ⟨(x :: X').toArray⟩) rfl (new_cell _ _ _) rfl (by omega) (by rw [World.size_alloc]; exact Nat.le_succ_of_le hbs) ?_; intro g' cap' w6 hown6 hgr6) | fail)
              go_roundg (l.length - (i + 1))
              case rel =>
                refine ⟨i + 1, by go_num, by omega, rfl, ?_, ?_, ?_⟩
                · intro t ht
                  rw [HTK.out] at ht
                  rcases List.mem_append.1 ht with ht | ht
                  · exact HOK.out t ht
                  · obtain rfl := List.mem_singleton.1 ht
                    exact HOO.out
                · rw [HTK.out, List.map_append, List.map_cons, List.map_nil, HXX.out]
                  exact hown6
                · exact (HB5.out.alloc hbs _).grown hgr6 (by rw [World.size_alloc]; exact Nat.le_succ_of_le hbs) (own_ge hown5)
              case measure => have := HG.out; omega
    · have hik : i = l.length := by omega
      subst hik
      have hall : l.all okI = true := by
        have := HOK.out
        rw [List.take_length] at this
        rw [List.all_eq_true]
        exact this
      have hown := HO.out
      rw [List.take_length] at hown
      have hF := HFIN.out
      by_cases h0 : l.length = 0
      · rw [if_neg (fun e => e.2.1 (List.eq_nil_of_length_eq_zero h0))] at hF
        subst hF
        have hl0 := List.eq_nil_of_length_eq_zero h0
        subst hl0
        clear hown hall
        go_wp2
        go_ret2
        exact ⟨rfl, HBW.out⟩
      · have h0i : ((l.length : Int) == 0) = false := by rw [beq_eq_false_iff_ne]; omega
        by_cases h16 : 16 < l.length
        · rw [if_neg (fun e => by have := e.2.2; omega)] at hF
          subst hF
          have h16i : (16 : Int) < (l.length : Int) := by omega
          clear hown hall
          go_wp2
          go_ret2
          exact ⟨rfl, HBW.out⟩
        · have h16i : ¬ (16 : Int) < (l.length : Int) := by omega
          rw [if_pos ⟨hall, fun e => h0 (by rw [e]; rfl), by omega⟩] at hF
          obtain ⟨g, cap4, hv4, hgB, hglt⟩ := hown.form (by omega)
          have hcap4 := own_cap hown
          subst hv4
          have hcap4 : l.length ≤ cap4 := hcap4
          have hadd : ∀ j, (⟨g, 0, none⟩ : Addr).add j = ⟨g, j, none⟩ := fun j => by unfold Addr.add; split <;> simp_all
          have HJ := Lib.hid (Tryz.strings_Join g 0 cap4 (l.map fun t => (⟨(textI t).toArray⟩ : ByteArray)) ⟨#[44, 32]⟩ wr (by
            intro j x hx
            rw [List.getElem?_map] at hx
            obtain ⟨t, ht, rfl⟩ := Option.map_eq_some_iff.1 hx
            have := World.ownsRow.cells hown (g := g) rfl j (strV (textI t)) (by rw [List.getElem?_map, ht]; rfl)
            rw [hadd] at this
            rw [Nat.zero_add]
            exact this) hglt (by rw [List.length_map]; omega) (by rw [List.length_map]; exact hcap4) (by
            rw [List.map_map, show ((fun x : ByteArray => x.data.toList) ∘ fun t => (⟨(textI t).toArray⟩ : ByteArray)) = textI from rfl, show (⟨#[44, 32]⟩ : ByteArray).data.toList = [44, 32] from rfl, joinC_eq]
            have := joinC_len (l.map textI) 4000020 (fun x hx => by
              obtain ⟨t, ht, rfl⟩ := List.mem_map.1 hx
              have h1 := textI_len t
              have h2 := HSZ.out t ht
              omega)
            rw [List.length_map] at this
            have h3 : l.length * 4000022 ≤ 16 * 4000022 := Nat.mul_le_mul_right _ (by omega)
            omega))
          rw [List.map_map, show ((fun x : ByteArray => x.data.toList) ∘ fun t => (⟨(textI t).toArray⟩ : ByteArray)) = textI from rfl, show (⟨#[44, 32]⟩ : ByteArray).data.toList = [44, 32] from rfl, joinC_eq, List.length_map] at HJ
          have hjl := joinC_len (l.map textI) 4000020 (fun x hx => by
            obtain ⟨t, ht, rfl⟩ := List.mem_map.1 hx
            have h1 := textI_len t
            have h2 := HSZ.out t ht
            omega)
          rw [List.length_map] at hjl
          have h3 : l.length * 4000022 ≤ 16 * 4000022 := Nat.mul_le_mul_right _ (by omega)
          obtain ⟨J, hJ⟩ : ∃ J, joinC (l.map textI) = J := ⟨_, rfl⟩
          rw [hJ] at HJ hjl hF
          have HRR := Lib.hid hF
          clear hF
          have hJs : (⟨J.toArray⟩ : ByteArray).size ≤ 100000000 := by show J.length ≤ _; omega
          have hJl : J.length ≤ 100000000 := hJs
          have hSB : (⟨J.toArray⟩ : ByteArray) ++ ⟨#[10]⟩ = ⟨(J ++ [10]).toArray⟩ := by
            apply ByteArray.ext
            simp
          have HSB := Lib.hid hSB
          clear hown hall hJ hadd hSB hjl h3 hcap4
          go_wp2_with fail
          refine HJ.out.mono ?_
          rintro e w9 ⟨rfl, hb9⟩
          go_wp2
          go_ret2
          exact ⟨by rw [HRR.out]; show _ = Ending.returned (.tuple #[.string ⟨(J ++ [10]).toArray⟩, .bool true]); rw [← HSB.out]; rfl, HBW.out.trans (hb9.mono HBW.out.size)⟩
end Go.Proofs.YtkoncmmbdlnmfaaGreatDoor
