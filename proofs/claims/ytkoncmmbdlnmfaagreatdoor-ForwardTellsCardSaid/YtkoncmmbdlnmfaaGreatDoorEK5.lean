/- Several texts joined into one (a claim has a limit of files). -/
import Derived.Test.YtkoncmmbdlnmfaaGreatDoorLinM
import Derived.Test.YtkoncmmbdlnmfaaGreatDoorTexT
import Derived.BigRegion
/- forward.Text: what it hands back. -/
namespace Go.Proofs.YtkoncmmbdlnmfaaGreatDoor
open Go.RowKit Go.Lib
set_option linter.unusedSimpArgs false
set_option linter.unusedVariables false
set_option linter.unnecessarySimpa false
set_option maxRecDepth 100000

theorem textI_len (t : TI) : (textI t).length ≤ 2 * t.2.1.1.length + t.2.1.2.length + t.2.2.length + 20 := by
  unfold textI
  split
  · have h1 := text_len_le' t.2.1
    unfold tellF
    split
    · omega
    · split
      · simp only [List.length_append, List.length_cons, failL, List.length_nil]; omega
      · split
        · have : (begL t.1.toNat).length ≤ 9 := by
            unfold begL
            repeat' split
            all_goals decide
          rw [List.length_append]; omega
        · omega
  · simp
/-- what Text hands back. -/
def fTx (l : List TI) : List UInt8 × Bool := if l.all okI = true ∧ l ≠ [] ∧ l.length ≤ 16 then (joinC (l.map textI) ++ [10], true) else ([], false)
theorem fTx_bad {l : List TI} {t : TI} (h : t ∈ l) (ht : okI t = false) : fTx l = ([], false) := by
  unfold fTx
  rw [if_neg]
  rintro ⟨h1, -⟩
  rw [List.all_eq_true] at h1
  rw [h1 t h] at ht
  cases ht
theorem joinC_len : ∀ (l : List (List UInt8)) (N : Nat), (∀ x ∈ l, x.length ≤ N) → (joinC l).length ≤ l.length * (N + 2)
  | [], N, _ => by simp [joinC]
  | [x], N, h => by
    have := h x List.mem_cons_self
    simp only [joinC, List.length_cons, List.length_nil]
    omega
  | x :: y :: r, N, h => by
    have h1 := h x List.mem_cons_self
    have h2 := joinC_len (y :: r) N (fun z hz => h z (List.mem_cons_of_mem _ hz))
    have e : (x :: y :: r).length * (N + 2) = (y :: r).length * (N + 2) + (N + 2) := by rw [List.length_cons, Nat.add_mul, Nat.one_mul]
    rw [e]
    simp only [joinC, List.length_append, List.length_cons] at h2 ⊢
    omega
theorem joinC_eq : ∀ l : List (List UInt8), Lib.join l [44, 32] = joinC l
  | [] => rfl
  | [x] => by simp [Lib.join, joinC, List.intercalate]
  | x :: y :: l => by
    have ih := joinC_eq (y :: l)
    have e1 : joinC (x :: y :: l) = x ++ 44 :: 32 :: joinC (y :: l) := rfl
    rw [e1, ← ih]
    simp [Lib.join, List.intercalate]
def TxRel (l : List TI) (w : World) (g : Nat) (v4 v10 : Value) (W : World) : Prop :=
  ∃ i : Nat, v10 = .int .i64 (i : Int) ∧ i ≤ l.length ∧ g = l.length - i ∧ (∀ t ∈ l.take i, okI t = true) ∧ W.ownsRow w.heap.size 9 1 v4 i ((l.take i).map fun t => strV (textI t)) ∧ Below w.heap.size w W
set_option maxHeartbeats 16000000 in
theorem Text_fwd (l : List TI) (v : Value) (w : World) (hrow : GRow 4 tiC w v l) (hl : l.length ≤ 100000) (hsz : ∀ t ∈ l, t.2.1.1.length ≤ 1000000 ∧ t.2.1.2.length ≤ 1000000 ∧ t.2.2.length ≤ 1000000) (hE : Env w) (hB : Begs w) :
    Calls Tryz.prog 17 #[v] w fun e w' => e = .returned (.tuple #[.string ⟨(fTx l).1.toArray⟩, .bool (fTx l).2]) ∧ Below w.heap.size w w' := by
  have HBAD := Lib.hid (fun t h ht => fTx_bad (l := l) (t := t) h ht)
  have hfin : fTx l = if l.all okI = true ∧ l ≠ [] ∧ l.length ≤ 16 then (joinC (l.map textI) ++ [10], true) else ([], false) := rfl
  generalize fTx l = R at HBAD hfin ⊢
  have HFIN := Lib.hid hfin
  have HROW := Lib.hid hrow
  have HE := Lib.hid hE
  have HB := Lib.hid hB
  have HSZ := Lib.hid hsz
  obtain ⟨p, cap, rfl, -⟩ := hrow
  clear hfin hE hB hsz
  go_enter Tryz.func17, Tryz.ntmps17
  go_wp2_with fail
  go_loopg [4, 10] l.length (fun g v4 v10 W => TxRel l w g v4 v10 W)
  case atStart => exact ⟨0, rfl, Nat.zero_le _, rfl, fun t ht => by simp at ht, World.ownsRow_nil _ _ _ _, Below.refl _ _⟩
  case round =>
    obtain ⟨i, rfl, hi, hg, hok, hown, hb⟩ := hrel
    have HG := Lib.hid hg
    have HOK := Lib.hid hok
    have HO := Lib.hid hown
    have HBW := Lib.hid hb
    clear hg hok hown hb
    by_cases hlt : i < l.length
    · have hi0 : (0 : Int) ≤ (i : Int) := by omega
      have hi1 : (i : Int) < (l.length : Int) := by omega
      have hwk : IntKind.i64.wrap ((i : Int) + 1) = (i : Int) + 1 := by rw [IntKind.wrap_i64]; omega
      have hx := List.getElem?_eq_getElem hlt
      obtain ⟨T, hT⟩ : ∃ T, l[i] = T := ⟨_, rfl⟩
      rw [hT] at hx
      have hmem : T ∈ l := by rw [← hT]; exact List.getElem_mem hlt
      have hts := HSZ.out T hmem
      have HMEM := Lib.hid hmem
      have HTK := Lib.hid (show l.take (i + 1) = l.take i ++ [T] by rw [List.take_add_one, hx]; rfl)
      obtain ⟨p', cap', he, h⟩ := HROW.out.below HBW.out
      obtain rfl : cap = cap' := by injection he
      obtain rfl : p = p' := by injection he
      obtain ⟨b, o, hpb, hc⟩ := grow_at h hlt
      subst hpb
      clear he h
      obtain ⟨k, ⟨a, b'⟩, n⟩ := T
      have d0 := hc i _ hx 0 (.int .i64 k) rfl
      have d1 := hc i _ hx 1 (.string ⟨a.toArray⟩) rfl
      have d2 := hc i _ hx 2 (.string ⟨b'.toArray⟩) rfl
      have d3 := hc i _ hx 3 (.string ⟨n.toArray⟩) rfl
      rw [Nat.add_zero] at d0
      have HFB := Lib.hid (HBAD.out _ hmem)
      have HOI := Lib.hid (show okI (k, (a, b'), n) = (!(textI (k, (a, b'), n)).isEmpty && (textI (k, (a, b'), n)).head? != some 35 && !(textI (k, (a, b'), n)).contains 34 && decide (1 ≤ k) && decide (k ≤ 4)) from rfl)
      have HB0 := Lib.hid (alloc_below wr (.cells #[.int .i64 k, .string ⟨a.toArray⟩, .string ⟨b'.toArray⟩, .string ⟨n.toArray⟩] 28))
      have HF := Lib.hid (Four4.made wr (.int .i64 k) (.string ⟨a.toArray⟩) (.string ⟨b'.toArray⟩) (.string ⟨n.toArray⟩) 28)
      obtain ⟨wy, hwy⟩ : ∃ wy, wr.alloc (.cells #[.int .i64 k, .string ⟨a.toArray⟩, .string ⟨b'.toArray⟩, .string ⟨n.toArray⟩] 28) = wy := ⟨_, rfl⟩
      rw [hwy] at HB0 HF
      have HBY := Lib.hid (HBW.out.trans (HB0.out.mono HBW.out.size))
      have HTX := Lib.hid (TText_any (k, (a, b'), n) hts.1 hts.2.1 hts.2.2 wy (HE.out.below HBY.out) (HB.out.below HBY.out))
      have HMY := Lib.hid (fun W => may_any k ⟨a.toArray⟩ ⟨b'.toArray⟩ ⟨n.toArray⟩ W)
      have HOY := Lib.hid (own_low HO.out HB0.out)
      have hXl := textI_len (k, (a, b'), n)
      simp only [tiV, tiC] at HTX
      obtain ⟨O, hO⟩ : ∃ O, okI (k, (a, b'), n) = O := ⟨_, rfl⟩
      rw [hO] at HFB HOI
      have HOO := Lib.hid hO
      obtain ⟨X, hX⟩ : ∃ X, textI (k, (a, b'), n) = X := ⟨_, rfl⟩
      rw [hX] at HTX HOI hXl
      have HXX := Lib.hid hX
      have HCT := Lib.hid (fun W => Tryz.strings_Contains_one ⟨X.toArray⟩ 34 W)
      rw [show (⟨X.toArray⟩ : ByteArray).data.toList = X from rfl, has_at] at HCT
      obtain ⟨⟨-, e0, e1, e2, e3⟩, -⟩ := HF.out
      clear hc hx hT hmem hO hX hts
      go_wp2_with fail
      refine HTX.out.mono ?_
      rintro e w3 ⟨rfl, hb3⟩
      have HF3 := Lib.hid (HF.out.below hb3)
      have HO3 := Lib.hid (own_low HOY.out hb3)
      have HB3 := Lib.hid (HBY.out.trans (hb3.mono HBY.out.size))
      clear hb3 e0 e1 e2 e3 d0 d1 d2 d3
      obtain ⟨⟨-, e0, e1, e2, e3⟩, -⟩ := HF3.out
      by_cases hX0 : X = []
      · subst hX0
        obtain rfl : O = false := HOI.out
        obtain rfl : R = ([], false) := HFB.out rfl
        go_wp2
        go_ret2
        exact ⟨rfl, HB3.out⟩
      · obtain ⟨x, X', rfl⟩ := List.exists_cons_of_ne_nil hX0
        have hsX : (⟨(x :: X').toArray⟩ : ByteArray).size = X'.length + 1 := rfl
        have hX1 : (⟨(x :: X').toArray⟩ : ByteArray)[0]'(by rw [hsX]; omega) = x := rfl
        by_cases h35 : x = 35
        · subst h35
          obtain rfl : O = false := by rw [HOI.out]; simp
          obtain rfl : R = ([], false) := HFB.out rfl
          go_wp2
          go_ret2
          exact ⟨rfl, HB3.out⟩
        · have n35 : ((x.toNat : Int) == 35) = false := by
            rw [beq_eq_false_iff_ne]
            intro e
            exact h35 (UInt8.toNat_inj.1 (show x.toNat = (35 : UInt8).toNat from by show x.toNat = 35; omega))
          obtain ⟨C, hC⟩ : ∃ C, (x :: X').contains 34 = C := ⟨_, rfl⟩
          rw [hC] at HCT HOI
          have hO2 : O = (!C && decide (1 ≤ k) && decide (k ≤ 4)) := by
            rw [HOI.out]
            have : (some x != some 35) = true := by rw [bne_iff_ne]; intro e; injection e with e; exact h35 e
            simp [this]
          have HO2 := Lib.hid hO2
          clear hC hO2
          go_wp2_with fail
          refine (HCT.out _).mono ?_
          rintro e w4 ⟨rfl, rfl⟩
          cases C with
          | true =>
            obtain rfl : O = false := HO2.out
            obtain rfl : R = ([], false) := HFB.out rfl
            go_wp2
            go_ret2
            exact ⟨rfl, HB3.out⟩
          | false =>
            have hO2 : O = (decide (1 ≤ k) && decide (k ≤ 4)) := HO2.out
            rw [← hO2] at HMY
            clear hO2
            go_wp2_with fail
            refine (HMY.out _).mono ?_
            rintro e w5 ⟨rfl, hb5⟩
            have HB5 := Lib.hid (HB3.out.trans (hb5.mono HB3.out.size))
            have hown5 := own_low HO3.out hb5
            have hbs := HB5.out.size
            clear hb5
            cases O with
            | false =>
              obtain rfl : R = ([], false) := HFB.out rfl
              go_wp2
              go_ret2
              exact ⟨rfl, HB5.out⟩
            | true =>
              go_wp2_with (first | (at_builtin; refine app_str rfl _ _ rfl w.heap.size _ _ _ rfl (World.ownsRow.alloc (w := w5) hown5 _) ⟨w5.heap.size, 0, none⟩ 1 (.string ⟨(x :: X').toArray⟩) rfl (new_cell _ _ _) rfl (by omega) (by rw [World.size_alloc]; exact Nat.le_succ_of_le hbs) ?_; intro g' cap' w6 hown6 hgr6) | fail)
              go_roundg (l.length - (i + 1))
              case rel =>
                refine ⟨i + 1, by go_num, by omega, rfl, ?_, ?_, ?_⟩
                · intro t ht
                  rw [HTK.out] at ht
                  rcases List.mem_append.1 ht with ht | ht
                  · exact HOK.out t ht
                  · obtain rfl := List.mem_singleton.1 ht
                    exact HOO.out
                · rw [HTK.out, List.map_append, List.map_cons, List.map_nil, HXX.out]
                  exact hown6
                · exact (HB5.out.alloc hbs _).grown hgr6 (by rw [World.size_alloc]; exact Nat.le_succ_of_le hbs) (own_ge hown5)
              case measure => have := HG.out; omega
    · have hik : i = l.length := by omega
      subst hik
      have hall : l.all okI = true := by
        have := HOK.out
        rw [List.take_length] at this
        rw [List.all_eq_true]
        exact this
      have hown := HO.out
      rw [List.take_length] at hown
      have hF := HFIN.out
      by_cases h0 : l.length = 0
      · rw [if_neg (fun e => e.2.1 (List.eq_nil_of_length_eq_zero h0))] at hF
        subst hF
        have hl0 := List.eq_nil_of_length_eq_zero h0
        subst hl0
        clear hown hall
        go_wp2
        go_ret2
        exact ⟨rfl, HBW.out⟩
      · have h0i : ((l.length : Int) == 0) = false := by rw [beq_eq_false_iff_ne]; omega
        by_cases h16 : 16 < l.length
        · rw [if_neg (fun e => by have := e.2.2; omega)] at hF
          subst hF
          have h16i : (16 : Int) < (l.length : Int) := by omega
          clear hown hall
          go_wp2
          go_ret2
          exact ⟨rfl, HBW.out⟩
        · have h16i : ¬ (16 : Int) < (l.length : Int) := by omega
          rw [if_pos ⟨hall, fun e => h0 (by rw [e]; rfl), by omega⟩] at hF
          obtain ⟨g, cap4, hv4, hgB, hglt⟩ := hown.form (by omega)
          have hcap4 := own_cap hown
          subst hv4
          have hcap4 : l.length ≤ cap4 := hcap4
          have hadd : ∀ j, (⟨g, 0, none⟩ : Addr).add j = ⟨g, j, none⟩ := fun j => by unfold Addr.add; split <;> simp_all
          have HJ := Lib.hid (Tryz.strings_Join g 0 cap4 (l.map fun t => (⟨(textI t).toArray⟩ : ByteArray)) ⟨#[44, 32]⟩ wr (by
            intro j x hx
            rw [List.getElem?_map] at hx
            obtain ⟨t, ht, rfl⟩ := Option.map_eq_some_iff.1 hx
            have := World.ownsRow.cells hown (g := g) rfl j (strV (textI t)) (by rw [List.getElem?_map, ht]; rfl)
            rw [hadd] at this
            rw [Nat.zero_add]
            exact this) hglt (by rw [List.length_map]; omega) (by rw [List.length_map]; exact hcap4) (by
            rw [List.map_map, show ((fun x : ByteArray => x.data.toList) ∘ fun t => (⟨(textI t).toArray⟩ : ByteArray)) = textI from rfl, show (⟨#[44, 32]⟩ : ByteArray).data.toList = [44, 32] from rfl, joinC_eq]
            have := joinC_len (l.map textI) 4000020 (fun x hx => by
              obtain ⟨t, ht, rfl⟩ := List.mem_map.1 hx
              have h1 := textI_len t
              have h2 := HSZ.out t ht
              omega)
            rw [List.length_map] at this
            have h3 : l.length * 4000022 ≤ 16 * 4000022 := Nat.mul_le_mul_right _ (by omega)
            omega))
          rw [List.map_map, show ((fun x : ByteArray => x.data.toList) ∘ fun t => (⟨(textI t).toArray⟩ : ByteArray)) = textI from rfl, show (⟨#[44, 32]⟩ : ByteArray).data.toList = [44, 32] from rfl, joinC_eq, List.length_map] at HJ
          have hjl := joinC_len (l.map textI) 4000020 (fun x hx => by
            obtain ⟨t, ht, rfl⟩ := List.mem_map.1 hx
            have h1 := textI_len t
            have h2 := HSZ.out t ht
            omega)
          rw [List.length_map] at hjl
          have h3 : l.length * 4000022 ≤ 16 * 4000022 := Nat.mul_le_mul_right _ (by omega)
          obtain ⟨J, hJ⟩ : ∃ J, joinC (l.map textI) = J := ⟨_, rfl⟩
          rw [hJ] at HJ hjl hF
          have HRR := Lib.hid hF
          clear hF
          have hJs : (⟨J.toArray⟩ : ByteArray).size ≤ 100000000 := by show J.length ≤ _; omega
          have hJl : J.length ≤ 100000000 := hJs
          have hSB : (⟨J.toArray⟩ : ByteArray) ++ ⟨#[10]⟩ = ⟨(J ++ [10]).toArray⟩ := by
            apply ByteArray.ext
            simp
          have HSB := Lib.hid hSB
          clear hown hall hJ hadd hSB hjl h3 hcap4
          go_wp2_with fail
          refine HJ.out.mono ?_
          rintro e w9 ⟨rfl, hb9⟩
          go_wp2
          go_ret2
          exact ⟨by rw [HRR.out]; show _ = Ending.returned (.tuple #[.string ⟨(J ++ [10]).toArray⟩, .bool true]); rw [← HSB.out]; rfl, HBW.out.trans (hb9.mono HBW.out.size)⟩
end Go.Proofs.YtkoncmmbdlnmfaaGreatDoor

/- The law's Few: the first 20 targets, each text cut behind 80 bytes. -/
namespace Go.Proofs.YtkoncmmbdlnmfaaGreatDoor
open Go.RowKit Go.Lib
set_option linter.unusedSimpArgs false
set_option linter.unusedVariables false
set_option linter.unnecessarySimpa false
set_option maxRecDepth 100000

def fewT (t : TI) : TI := (t.1, (t.2.1.1.take 80, t.2.1.2.take 80), t.2.2.take 80)
def fewL (l : List TI) : List TI := (l.take 20).map fewT
def fewS (X : ByteArray) : ByteArray := X.extract 0 (min (X.size : Int) 80).toNat
theorem fewS_eq (x : List UInt8) : fewS ⟨x.toArray⟩ = ⟨(x.take 80).toArray⟩ := by
  unfold fewS
  have e : (⟨x.toArray⟩ : ByteArray).size = x.length := rfl
  rw [e]
  apply ByteArray.ext
  apply Array.ext'
  rw [ByteArray.data_extract, Array.toList_extract]
  simp only [List.extract_eq_take_drop, List.drop_zero, Nat.sub_zero]
  by_cases h : x.length ≤ 80
  · rw [show (min (x.length : Int) 80).toNat = x.length by omega, List.take_of_length_le (Nat.le_refl _), List.take_of_length_le h]
  · rw [show (min (x.length : Int) 80).toNat = 80 by omega]
theorem Four4.put12 {B : Nat} {x y z u : Value} {W : World} (h : Four4 B x y z u W) (c d : Value) : Four4 B x c d u ((W.setCell ⟨B, 1, none⟩ c).setCell ⟨B, 2, none⟩ d) := by
  have e1 := set_same W ⟨B, 1, none⟩ _ c h.c.c1
  have k2 : (W.setCell ⟨B, 1, none⟩ c).cell? ⟨B, 2, none⟩ = some z := (cell_off W B 1 2 c (by decide)).trans h.c.c2
  have e2 := set_same _ ⟨B, 2, none⟩ _ d k2
  refine ⟨⟨by simpa [World.setCell] using h.c.lt, ?_, ?_, e2, ?_⟩, ?_, ?_, ?_, ?_⟩
  · rw [cell_off _ B 2 0 d (by decide), cell_off _ B 1 0 c (by decide)]; exact h.c.c0
  · rw [cell_off _ B 2 1 d (by decide)]; exact e1
  · rw [cell_off _ B 2 3 d (by decide), cell_off _ B 1 3 c (by decide)]; exact h.c.c3
  · simp only [World.frozen?_setCell]; exact h.f0
  · simp only [World.frozen?_setCell]; exact h.f1
  · simp only [World.frozen?_setCell]; exact h.f2
  · simp only [World.frozen?_setCell]; exact h.f3
theorem cells4d (w : World) (a b c d : Value) (t : TypeId) : ∀ (j : Nat) (u : Value), [a, b, c, d][j]? = some u → (w.alloc (.cells #[a, b, c, d] t)).drew.cell? ⟨w.heap.size, j, none⟩ = some u := fun j u h => cells4 w a b c d t j u h
def FewRel (l : List TI) (w : World) (g : Nat) (v3 v4 : Value) (W : World) : Prop :=
  ∃ k : Nat, v4 = .int .i64 (k : Int) ∧ k ≤ l.length ∧ k ≤ 20 ∧ g = 20 - k ∧ W.ownsRow w.heap.size 28 4 v3 k (((l.take k).map fewT).flatMap tiC) ∧ Below w.heap.size w W
set_option maxHeartbeats 16000000 in
theorem Few_any (l : List TI) (v : Value) (w : World) (hrow : GRow 4 tiC w v l) :
    Calls Tryz.prog 15 #[v] w fun e w' => ∃ v', e = .returned v' ∧ GRow 4 tiC w' v' (fewL l) ∧ Below w.heap.size w w' := by
  have HROW := Lib.hid hrow
  obtain ⟨p, cap, rfl, -⟩ := hrow
  go_enter Tryz.func15, Tryz.ntmps15
  go_wp2_with fail
  go_loopg [3, 4] 20 (fun g v3 v4 W => FewRel l w g v3 v4 W)
  case atStart => exact ⟨0, rfl, Nat.zero_le _, Nat.zero_le _, rfl, World.ownsRow_nil _ _ _ _, Below.refl _ _⟩
  case round =>
    obtain ⟨i, rfl, hi, hi20, hg, hown, hb⟩ := hrel
    have HG := Lib.hid hg
    have HO := Lib.hid hown
    have HBW := Lib.hid hb
    clear hg hown hb
    by_cases hlt : i < l.length
    · have hi0 : (0 : Int) ≤ (i : Int) := by omega
      have hi1 : (i : Int) < (l.length : Int) := by omega
      have d1 : decide ((i : Int) < (l.length : Int)) = true := by rw [decide_eq_true_eq]; exact hi1
      by_cases h20 : i < 20
      · have hi2 : (i : Int) < 20 := by omega
        have d2 : decide ((i : Int) < 20) = true := by rw [decide_eq_true_eq]; exact hi2
        have hwk : IntKind.i64.wrap ((i : Int) + 1) = (i : Int) + 1 := by rw [IntKind.wrap_i64]; omega
        have hx := List.getElem?_eq_getElem hlt
        obtain ⟨T, hT⟩ : ∃ T, l[i] = T := ⟨_, rfl⟩
        rw [hT] at hx
        have hmem : T ∈ l := by rw [← hT]; exact List.getElem_mem hlt
        have HTK := Lib.hid (show ((l.take (i + 1)).map fewT).flatMap tiC = ((l.take i).map fewT).flatMap tiC ++ tiC (fewT T) by rw [List.take_add_one, hx]; simp)
        obtain ⟨p', cap', he, h⟩ := HROW.out.below HBW.out
        obtain rfl : cap = cap' := by injection he
        obtain rfl : p = p' := by injection he
        obtain ⟨b, o, hpb, hc⟩ := grow_at h hlt
        subst hpb
        clear he h
        obtain ⟨k, ⟨a, b'⟩, n⟩ := T
        have e1 := fewS_eq a
        have e2 := fewS_eq b'
        have e3 := fewS_eq n
        have HTN := Lib.hid (show tiC (fewT (k, (a, b'), n)) = [.int .i64 k, .string (fewS ⟨a.toArray⟩), .string (fewS ⟨b'.toArray⟩), .string (fewS ⟨n.toArray⟩)] by rw [e1, e2, e3]; rfl)
        rw [HTN.out] at HTK
        have c0 := hc i _ hx 0 (.int .i64 k) rfl
        have c1 := hc i _ hx 1 (.string ⟨a.toArray⟩) rfl
        have c2 := hc i _ hx 2 (.string ⟨b'.toArray⟩) rfl
        have c3 := hc i _ hx 3 (.string ⟨n.toArray⟩) rfl
        rw [Nat.add_zero] at c0
        have hA : (⟨a.toArray⟩ : ByteArray).size = a.length := rfl
        have hD : (⟨b'.toArray⟩ : ByteArray).size = b'.length := rfl
        have hN : (⟨n.toArray⟩ : ByteArray).size = n.length := rfl
        clear hc hx hmem hT e1 e2 e3 HTN hA hD hN
        generalize (⟨a.toArray⟩ : ByteArray) = A at *
        generalize (⟨b'.toArray⟩ : ByteArray) = D at *
        generalize (⟨n.toArray⟩ : ByteArray) = M at *
        clear a b' n
        unfold fewS at HTK
        have a0 : (0 : Int) ≤ min (A.size : Int) 80 := by omega
        have a1 : min (A.size : Int) 80 ≤ (A.size : Int) := by omega
        have b0 : (0 : Int) ≤ min (D.size : Int) 80 := by omega
        have b1 : min (D.size : Int) 80 ≤ (D.size : Int) := by omega
        have m0 : (0 : Int) ≤ min (M.size : Int) 80 := by omega
        have m1 : min (M.size : Int) 80 ≤ (M.size : Int) := by omega
        have HF := Lib.hid (Four4.made wr (.int .i64 k) (.string A) (.string D) (.string M) 28)
        have HB0 := Lib.hid (alloc_below wr (.cells #[.int .i64 k, .string A, .string D, .string M] 28))
        have HOA := Lib.hid (HO.out.alloc (.cells #[.int .i64 k, .string A, .string D, .string M] 28))
        obtain ⟨wy, hwy⟩ : ∃ wy, wr.alloc (.cells #[.int .i64 k, .string A, .string D, .string M] 28) = wy := ⟨_, rfl⟩
        rw [hwy] at HB0 HF HOA
        obtain ⟨⟨-, y0, y1, y2, y3⟩, g0, g1, g2, g3⟩ := HF.out
        go_wp2_with fail
        have HFZ := Lib.hid (HF.out.put3 (.string (M.extract 0 (min (M.size : Int) 80).toNat)))
        have HBZ := Lib.hid (HB0.out.setCell (p := ⟨wr.heap.size, 3, none⟩) (Nat.le_refl _) (.string (M.extract 0 (min (M.size : Int) 80).toNat)))
        generalize hwz : wy.setCell ⟨wr.heap.size, 3, none⟩ (.string (M.extract 0 (min (M.size : Int) 80).toNat)) = wz at HFZ HBZ ⊢
        clear y0 y1 y2 y3 g0 g1 g2 g3 hwz
        have HFD := Lib.hid (HFZ.out.below (drew_below wz))
        obtain ⟨⟨-, y0, y1, y2, y3⟩, g0, g1, g2, g3⟩ := HFZ.out
        obtain ⟨⟨-, x0, x1, x2, x3⟩, -⟩ := HFD.out
        have HF7 := Lib.hid (HFZ.out.put12 (.string (A.extract 0 (min (A.size : Int) 80).toNat)) (.string (D.extract 0 (min (D.size : Int) 80).toNat)))
        have HB7 := Lib.hid ((HBZ.out.setCell (p := ⟨wr.heap.size, 1, none⟩) (Nat.le_refl _) (.string (A.extract 0 (min (A.size : Int) 80).toNat))).setCell (p := ⟨wr.heap.size, 2, none⟩) (Nat.le_refl _) (.string (D.extract 0 (min (D.size : Int) 80).toNat)))
        go_region
        generalize hw7 : (wz.setCell ⟨wr.heap.size, 1, none⟩ (.string (A.extract 0 (min (A.size : Int) 80).toNat))).setCell ⟨wr.heap.size, 2, none⟩ (.string (D.extract 0 (min (D.size : Int) 80).toNat)) = w7 at HF7 HB7 ⊢
        have HO7 := Lib.hid (own_low HO.out HB7.out)
        have HBX := Lib.hid (HBW.out.trans (HB7.out.mono HBW.out.size))
        have HS7 := Lib.hid HBX.out.size
        clear y0 y1 y2 y3 g0 g1 g2 g3 x0 x1 x2 x3 hw7
        obtain ⟨⟨-, y0, y1, y2, y3⟩, -⟩ := HF7.out
        go_wp2_with (first | (at_builtin; refine app_gen rfl _ _ 22 28 4 56 (.agg #[.int .i64 0, .string ⟨#[]⟩, .string ⟨#[]⟩, .string ⟨#[]⟩]) Tryz.underlying22 info28 rfl (by decide) (by decide) rfl w.heap.size _ _ _ rfl (own_low (World.ownsRow.alloc (w := w7) HO7.out _) (drew_below _)) w7.heap.size 1 [.int .i64 k, .string (A.extract 0 (min (A.size : Int) 80).toNat), .string (D.extract 0 (min (D.size : Int) 80).toNat), .string (M.extract 0 (min (M.size : Int) 80).toNat)] rfl rfl (cells4d _ _ _ _ _ _) (by intro u hu; simp at hu; rcases hu with rfl | rfl | rfl | rfl <;> rfl) (by omega) (by show w.heap.size ≤ (w7.alloc _).heap.size; rw [World.size_alloc]; exact Nat.le_succ_of_le HS7.out) ?_; intro g' cap' w8 hown8 hgr8 hat8) | fail)
        go_roundg (20 - (i + 1))
        case rel =>
          refine ⟨i + 1, by go_num, by omega, by omega, rfl, ?_, ?_⟩
          · rw [HTK.out]; exact hown8
          · exact ((HBX.out.alloc HS7.out _).trans ((drew_below _).mono (by rw [World.size_alloc]; exact Nat.le_succ_of_le HS7.out))).grown hgr8 (by show w.heap.size ≤ (w7.alloc _).heap.size; rw [World.size_alloc]; exact Nat.le_succ_of_le HS7.out) (own_ge HO7.out)
        case measure => have := HG.out; omega
      · have d2 : decide ((i : Int) < 20) = false := by rw [decide_eq_false_iff_not]; omega
        have hge : ¬ (i : Int) < 20 := by omega
        obtain rfl : i = 20 := by omega
        have hrow2 : wr.ownsRow w.heap.size 28 4 u3 (((l.take 20).map fewT).length) (((l.take 20).map fewT).flatMap tiC) := by
          rw [List.length_map, List.length_take, Nat.min_eq_left (by omega)]
          exact HO.out
        have HR := Lib.hid (GRow.of (C := tiC) (fun _ => rfl) hrow2)
        clear hrow2
        go_wp2
        go_ret
        exact ⟨_, rfl, HR.out, HBW.out⟩
    · have d1 : decide ((i : Int) < (l.length : Int)) = false := by rw [decide_eq_false_iff_not]; omega
      have hge : ¬ (i : Int) < (l.length : Int) := by omega
      have hil : i = l.length := by omega
      have hrow2 : wr.ownsRow w.heap.size 28 4 u3 (((l.take 20).map fewT).length) (((l.take 20).map fewT).flatMap tiC) := by
        have := HO.out
        rw [hil, List.take_of_length_le (Nat.le_refl _)] at this
        rw [List.length_map, List.length_take, Nat.min_eq_right (by omega), List.take_of_length_le (by omega)]
        exact this
      have HR := Lib.hid (GRow.of (C := tiC) (fun _ => rfl) hrow2)
      clear hrow2
      go_wp2
      go_ret
      exact ⟨_, rfl, HR.out, HBW.out⟩
end Go.Proofs.YtkoncmmbdlnmfaaGreatDoor

/- ForwardBack's plain part: which targets are kept, what their text tells, what is wanted. -/
namespace Go.Proofs.YtkoncmmbdlnmfaaGreatDoor
open Go.RowKit Go.Lib
set_option linter.unusedSimpArgs false
set_option linter.unusedVariables false
set_option linter.unnecessarySimpa false
set_option maxRecDepth 100000

def keepStep (m : Nat) (o : List TI) (t : TI) : List TI := if okI t = true ∧ o.length < m then o ++ [t] else o
def keepAll (m : Nat) (l : List TI) : List TI := l.foldl (keepStep m) []
theorem keep_at {m : Nat} {l : List TI} {i : Nat} {t : TI} (h : l[i]? = some t) : keepAll m (l.take (i + 1)) = keepStep m (keepAll m (l.take i)) t := by
  have e : l.take (i + 1) = l.take i ++ [t] := by rw [List.take_add_one, h]; rfl
  unfold keepAll
  rw [e, List.foldl_append]
  rfl
theorem keep_inv (m : Nat) (P : TI → Prop) : ∀ (l o : List TI), (∀ t ∈ o, okI t = true ∧ P t) → o.length ≤ m → (∀ t ∈ l, P t) → (∀ t ∈ l.foldl (keepStep m) o, okI t = true ∧ P t) ∧ (l.foldl (keepStep m) o).length ≤ m
  | [], o, ho, hm, _ => ⟨ho, hm⟩
  | t :: l, o, ho, hm, hl => by
    show (∀ t' ∈ l.foldl (keepStep m) (keepStep m o t), _) ∧ (l.foldl (keepStep m) (keepStep m o t)).length ≤ m
    refine keep_inv m P l _ ?_ ?_ (fun x hx => hl x (List.mem_cons_of_mem _ hx))
    · intro x hx
      unfold keepStep at hx
      split at hx
      · rename_i hk
        rcases List.mem_append.1 hx with hx | hx
        · exact ho x hx
        · obtain rfl := List.mem_singleton.1 hx
          exact ⟨hk.1, hl x List.mem_cons_self⟩
      · exact ho x hx
    · unfold keepStep
      split
      · rename_i hk
        rw [List.length_append, List.length_singleton]
        omega
      · exact hm
theorem ok_up : ∀ O : List TI, (∀ t ∈ O, okI t = true) → ∃ O' : List Tg, O = O'.map up ∧ ∀ t ∈ O', OkT t
  | [], _ => ⟨[], rfl, fun t ht => by cases ht⟩
  | t :: O, h => by
    obtain ⟨O', h1, h2⟩ := ok_up O (fun x hx => h x (List.mem_cons_of_mem _ hx))
    obtain ⟨t', e, hk, -⟩ := okI_ok (h t List.mem_cons_self)
    refine ⟨t' :: O', by rw [List.map_cons, ← h1, e], fun x hx => ?_⟩
    rcases List.mem_cons.1 hx with rfl | hx
    · exact hk
    · exact h2 x hx
def FewOk (t : TI) : Prop := t.2.1.1.length ≤ 80 ∧ t.2.1.2.length ≤ 80 ∧ t.2.2.length ≤ 80
theorem few_ok (l : List TI) : ∀ t ∈ fewL l, FewOk t := by
  intro t ht
  obtain ⟨x, -, rfl⟩ := List.mem_map.1 ht
  unfold FewOk fewT
  simp only [List.length_take]
  omega
theorem few_len (l : List TI) : (fewL l).length ≤ 20 := by
  unfold fewL
  rw [List.length_map, List.length_take]
  omega
theorem fwd_nil (us : List UInt8) : fwdL us [] = [] := by
  have h : (linesL []) = ([], []) := by decide +kernel
  unfold fwdL
  rw [h]
  rfl
theorem text_up {O : List Tg} (h : ∀ t ∈ O, OkT t) : (O.map up).map textI = O.map tellL := by
  rw [List.map_map]
  apply List.map_congr_left
  intro t ht
  exact (okI_up (h t ht)).2
theorem join_count : ∀ l : List (List UInt8), (∀ x ∈ l, ∀ b ∈ x, cleanB b = true) → (joinC l).count 10 = 0
  | [], _ => rfl
  | [x], h => by
    show x.count 10 = 0
    rw [List.count_eq_zero]
    intro hb
    exact absurd (h x List.mem_cons_self 10 hb) (by decide)
  | x :: y :: l, h => by
    have h1 : x.count 10 = 0 := by
      rw [List.count_eq_zero]
      intro hb
      exact absurd (h x List.mem_cons_self 10 hb) (by decide)
    have h2 := join_count (y :: l) (fun z hz => h z (List.mem_cons_of_mem _ hz))
    show (x ++ 44 :: 32 :: joinC (y :: l)).count 10 = 0
    rw [List.count_append, h1, List.count_cons, List.count_cons, h2]
    decide
/-- what the kept targets' text is, and how it is read. -/
theorem back_fact {O : List TI} (h : ∀ t ∈ O, okI t = true ∧ FewOk t) (hl : O.length ≤ 16) (h0 : O ≠ []) :
    ∃ (s : List UInt8) (O' : List Tg), O = O'.map up ∧ fTx O = (s, true) ∧ s.length ≤ 6000 ∧ (∀ us, fwdL us s = addAll us [] O') ∧ s.count 10 = 1 := by
  obtain ⟨O', e, hk⟩ := ok_up O (fun t ht => (h t ht).1)
  have hall : O.all okI = true := List.all_eq_true.2 (fun t ht => (h t ht).1)
  have hjl : (joinC (O.map textI)).length ≤ 5472 := by
    have := joinC_len (O.map textI) 340 (fun x hx => by
      obtain ⟨t, ht, rfl⟩ := List.mem_map.1 hx
      have h1 := textI_len t
      obtain ⟨-, h2, h3, h4⟩ := h t ht
      omega)
    rw [List.length_map] at this
    have h3 : O.length * (340 + 2) ≤ 16 * 342 := Nat.mul_le_mul_right _ hl
    omega
  have hO' : O' ≠ [] := by
    rintro rfl
    exact h0 e
  have hl' : O'.length ≤ 16 := by rw [e, List.length_map] at hl; exact hl
  have etx : O.map textI = O'.map tellL := by rw [e]; exact text_up hk
  refine ⟨joinC (O.map textI) ++ [10], O', e, ?_, ?_, ?_, ?_⟩
  · unfold fTx
    rw [if_pos ⟨hall, h0, hl⟩]
  · rw [List.length_append, List.length_singleton]
    omega
  · intro us
    rw [etx] at hjl ⊢
    exact back_law us hO' hk hl' (by omega)
  · rw [List.count_append, etx, join_count _ (fun x hx => by
      obtain ⟨t, ht, rfl⟩ := List.mem_map.1 hx
      exact (okT_clean (hk t ht)).2)]
    decide
theorem fTx_nil : fTx [] = ([], false) := by decide +kernel
theorem fTx_one (t : TI) : (fTx [t]).2 = okI t := by
  unfold fTx
  cases h : okI t with
  | true => rw [if_pos ⟨by simp [h], by simp, by simp⟩]
  | false => rw [if_neg (by simp [h])]
theorem addAll_take (us : List UInt8) {l : List Tg} {i : Nat} {t : Tg} (h : l[i]? = some t) : addAll us [] (l.take (i + 1)) = addT us (addAll us [] (l.take i)) t := by
  have e : l.take (i + 1) = l.take i ++ [t] := by rw [List.take_add_one, h]; rfl
  rw [e, addAll_snoc]
/-- a row that has just been laid. -/
theorem GRow.laid {α : Type} {k : Nat} {C : α → List Value} (hC : ∀ x, (C x).length = k) (w : World) (l : List α) (t cap : Nat) (cs : Array Value) (hcs : cs = (l.flatMap C).toArray) : GRow k C (w.alloc (.cells cs t)) (.slice (some ⟨w.heap.size, 0, none⟩) l.length cap) l := by
  subst hcs
  have h := heap_alloc_new w (.cells (l.flatMap C).toArray t)
  refine ⟨_, cap, rfl, .inr ⟨w.heap.size, 0, rfl, (Array.getElem?_eq_some_iff.1 h).1, fun i x hx j u hu => ?_⟩⟩
  have hjk : j < k := by rw [← hC x]; exact (List.getElem?_eq_some_iff.1 hu).1
  have e := flat_get hC l i j x hx hjk
  rw [Lib.cell_of_heap h, Nat.zero_add]
  simp only [List.getElem?_toArray]
  rw [e]
  exact hu
theorem addAll_ne2 (us : List UInt8) : ∀ (l out : List Tg), out ≠ [] ∨ l ≠ [] → addAll us out l ≠ []
  | [], out, h => by
    rcases h with h | h
    · exact h
    · exact absurd rfl h
  | t :: l, out, _ => by
    show addAll us (addT us out t) l ≠ []
    refine addAll_ne2 us l _ (.inl ?_)
    unfold addT
    split
    · rename_i h
      rintro rfl
      simp at h
    · simp
theorem up_contains (A : List Tg) (t : Tg) : (A.map up).contains (up t) = A.contains t := by
  rw [List.contains_eq_mem, List.contains_eq_mem]
  congr 1
  rw [List.mem_map]
  exact propext ⟨fun ⟨x, hx, e⟩ => up_inj e ▸ hx, fun h => ⟨t, h, rfl⟩⟩
theorem keep_len16 (m : Nat) (l : List TI) : (keepAll m l).length ≤ m := (keep_inv m (fun _ => True) l [] (fun t ht => by cases ht) (Nat.zero_le _) (fun _ _ => trivial)).2
end Go.Proofs.YtkoncmmbdlnmfaaGreatDoor

/- ForwardLines' plain part: which targets are kept, what their texts tell by lines and by commas. -/
namespace Go.Proofs.YtkoncmmbdlnmfaaGreatDoor
open Go.RowKit Go.Lib
set_option linter.unusedSimpArgs false
set_option linter.unusedVariables false
set_option linter.unnecessarySimpa false
set_option maxRecDepth 100000

def lowT (t : TI) : TI := (t.1, (lowL t.2.1.1, lowL t.2.1.2), lowL t.2.2)
def lineStep (o : List TI) (t : TI) : List TI := if okI (lowT t) = true ∧ o.contains (lowT t) = false ∧ o.length ≠ 10 then o ++ [lowT t] else o
def lineAll (l : List TI) : List TI := l.foldl lineStep []
theorem line_at {l : List TI} {i : Nat} {t : TI} (h : l[i]? = some t) : lineAll (l.take (i + 1)) = lineStep (lineAll (l.take i)) t := by
  have e : l.take (i + 1) = l.take i ++ [t] := by rw [List.take_add_one, h]; rfl
  unfold lineAll
  rw [e, List.foldl_append]
  rfl
def LineOk (t : TI) : Prop := okI t = true ∧ FewOk t ∧ lowT t = t
theorem low_low (t : TI) : lowT (lowT t) = lowT t := by
  unfold lowT
  simp only [lowL_idem]
theorem low_few {t : TI} (h : FewOk t) : FewOk (lowT t) := by
  unfold FewOk lowT at *
  simp only [lowL_len]
  exact h
theorem line_inv : ∀ (l o : List TI), (∀ t ∈ o, LineOk t) → o.Nodup → o.length ≤ 10 → (∀ t ∈ l, FewOk t) → (∀ t ∈ l.foldl lineStep o, LineOk t) ∧ (l.foldl lineStep o).Nodup ∧ (l.foldl lineStep o).length ≤ 10
  | [], o, ho, hn, hm, _ => ⟨ho, hn, hm⟩
  | t :: l, o, ho, hn, hm, hl => by
    show (∀ t' ∈ l.foldl lineStep (lineStep o t), LineOk t') ∧ (l.foldl lineStep (lineStep o t)).Nodup ∧ (l.foldl lineStep (lineStep o t)).length ≤ 10
    refine line_inv l _ ?_ ?_ ?_ (fun x hx => hl x (List.mem_cons_of_mem _ hx))
    · intro x hx
      unfold lineStep at hx
      split at hx
      · rename_i hk
        rcases List.mem_append.1 hx with hx | hx
        · exact ho x hx
        · obtain rfl := List.mem_singleton.1 hx
          exact ⟨hk.1, low_few (hl t List.mem_cons_self), low_low t⟩
      · exact ho x hx
    · unfold lineStep
      split
      · rename_i hk
        rw [List.nodup_append]
        refine ⟨hn, by simp, fun a ha b hb e => ?_⟩
        have hb := List.mem_singleton.1 hb
        have := hk.2.1
        rw [List.contains_eq_mem, decide_eq_false_iff_not] at this
        exact this (by rw [← hb, ← e]; exact ha)
      · exact hn
    · unfold lineStep
      split
      · rename_i hk
        rw [List.length_append, List.length_singleton]
        have := hk.2.2
        omega
      · exact hm
theorem lowL_app (a b : List UInt8) : lowL (a ++ b) = lowL a ++ lowL b := by unfold lowL; rw [List.map_append]
theorem low_tell {t : Tg} (hk : OkT t) (hl : lowT (up t) = up t) : lowL (tellL t) = tellL t := by
  obtain ⟨h0, -⟩ := okT_clean hk
  have h34 := hk.2.2
  obtain ⟨k, ⟨a, b⟩, n⟩ := t
  unfold lowT up at hl
  simp only [Prod.mk.injEq, true_and] at hl
  obtain ⟨⟨h1, h2⟩, h3⟩ := hl
  unfold tellL at h0 h34 ⊢
  simp only at h0 h34 ⊢
  split
  · rename_i hk1
    rw [if_pos hk1] at h0 h34
    unfold textL at h0 h34 ⊢
    simp only at h0 h34 ⊢
    split
    · rename_i hm
      rw [if_pos hm] at h34
      split
      · rw [lowL_app, lowL_app, h1, h2]; rfl
      · rename_i hd
        rw [if_neg hd] at h34
        exact absurd rfl (h34 34 (by simp [quoteL]))
    · rfl
  · split
    · show lowL ([92] ++ n) = [92] ++ n
      rw [lowL_app, h3]; rfl
    · split
      · show lowL ([47] ++ n) = [47] ++ n
        rw [lowL_app, h3]; rfl
      · exact h3
theorem tell_inj {s t : Tg} (hs : OkT s) (ht : OkT t) (e : tellL s = tellL t) : s = t := by
  have h1 := hs.1
  rw [e, ht.1] at h1
  exact (Option.some.inj h1).symm
theorem joinK_len : ∀ (l : List (List UInt8)) (N : Nat), (∀ x ∈ l, x.length ≤ N) → (joinK l).length ≤ l.length * (N + 1)
  | [], _, _ => Nat.zero_le _
  | [x], N, h => by
    have := h x List.mem_cons_self
    show x.length ≤ 1 * (N + 1)
    omega
  | x :: y :: r, N, h => by
    have h1 := h x List.mem_cons_self
    have h2 := joinK_len (y :: r) N (fun z hz => h z (List.mem_cons_of_mem _ hz))
    have e : (x :: y :: r).length * (N + 1) = (y :: r).length * (N + 1) + (N + 1) := by rw [List.length_cons, Nat.add_mul, Nat.one_mul]
    rw [e]
    show (x ++ 44 :: joinK (y :: r)).length ≤ _
    simp only [List.length_append, List.length_cons] at h2 ⊢
    omega
theorem rowsB_len : ∀ (l : List (List UInt8)) (N : Nat), (∀ x ∈ l, x.length ≤ N) → (rowsB l).length ≤ l.length * (N + 11)
  | [], _, _ => Nat.zero_le _
  | x :: r, N, h => by
    have h1 := h x List.mem_cons_self
    have h2 := rowsB_len r N (fun z hz => h z (List.mem_cons_of_mem _ hz))
    have e : (x :: r).length * (N + 11) = r.length * (N + 11) + (N + 11) := by rw [List.length_cons, Nat.add_mul, Nat.one_mul]
    rw [e]
    show ((x ++ (10 :: (remark ++ [10, 10]))) ++ rowsB r).length ≤ _
    simp only [List.length_append, List.length_cons, List.length_nil, show remark.length = 8 from rfl] at h2 ⊢
    omega
theorem joinK_snoc : ∀ (l : List (List UInt8)) (x : List UInt8), l ≠ [] → joinK (l ++ [x]) = joinK l ++ 44 :: x
  | [], _, h => absurd rfl h
  | [y], x, _ => rfl
  | y :: z :: r, x, _ => by
    show y ++ 44 :: joinK ((z :: r) ++ [x]) = (y ++ 44 :: joinK (z :: r)) ++ 44 :: x
    rw [joinK_snoc (z :: r) x (by simp)]
    simp
theorem joinK_ne : ∀ (l : List (List UInt8)), l ≠ [] → (∀ x ∈ l, x ≠ []) → joinK l ≠ []
  | [], h, _ => absurd rfl h
  | [x], _, h => h x List.mem_cons_self
  | x :: y :: r, _, h => by
    show x ++ 44 :: joinK (y :: r) ≠ []
    simp
theorem rowsB_snoc (l : List (List UInt8)) (x : List UInt8) : rowsB (l ++ [x]) = rowsB l ++ ((x ++ [10]) ++ [35, 32, 114, 101, 109, 97, 114, 107, 10, 10]) := by
  unfold rowsB
  rw [List.flatMap_append]
  simp [remark]
/-- what the walk asks of the kept targets' texts. -/
theorem line_fact {O : List TI} (h : ∀ t ∈ O, LineOk t) (hn : O.Nodup) (hl : O.length ≤ 10) (us : List UInt8) :
    ∃ O' : List Tg, O = O'.map up ∧ fwdL us (joinK (O.map textI)) = addAll us [] O' ∧ fwdL us (rowsB (O.map textI)) = addAll us [] O' ∧
      fwdL us (rowsB (O.map textI) ++ [97, 46, 46, 98, 10]) = [] ∧ fwdL us ([58, 100, 114, 111, 112, 58, 10] ++ rowsB (O.map textI)) = [] ∧ (joinK (O.map textI)).length ≤ 7000 ∧ (rowsB (O.map textI)).length ≤ 7000 := by
  obtain ⟨O', e, hk⟩ := ok_up O (fun t ht => (h t ht).1)
  have hl' : O'.length ≤ 10 := by rw [e, List.length_map] at hl; exact hl
  have etx : O.map textI = O'.map tellL := by rw [e]; exact text_up hk
  have hlen : ∀ x ∈ O.map textI, x.length ≤ 340 := fun x hx => by
    obtain ⟨t, ht, rfl⟩ := List.mem_map.1 hx
    have h1 := textI_len t
    obtain ⟨-, ⟨h2, h3, h4⟩, -⟩ := h t ht
    omega
  have hj := joinK_len _ 340 hlen
  have hr := rowsB_len _ 340 hlen
  rw [List.length_map] at hj hr
  have h3 : O.length * (340 + 1) ≤ 10 * 341 := Nat.mul_le_mul_right _ hl
  have h4 : O.length * (340 + 11) ≤ 10 * 351 := Nat.mul_le_mul_right _ hl
  have hj7 : (joinK (O.map textI)).length ≤ 7000 := by omega
  have hr7 : (rowsB (O.map textI)).length ≤ 7000 := by omega
  have hlow : ∀ t ∈ O', lowL (tellL t) = tellL t := fun t ht => by
    refine low_tell (hk t ht) ?_
    have hm : up t ∈ O := by rw [e]; exact List.mem_map.2 ⟨t, ht, rfl⟩
    exact (h _ hm).2.2
  have hml : (O'.map tellL).map lowL = O'.map tellL := by
    rw [List.map_map]
    exact List.map_congr_left (fun t ht => hlow t ht)
  have hnd : ((O'.map tellL).map lowL).Nodup := by
    rw [hml]
    have hn' : O'.Nodup := by
      rw [e] at hn
      exact (List.pairwise_map.1 hn).imp (fun hne e => hne (by rw [e]))
    refine List.pairwise_map.2 (List.Pairwise.imp_of_mem ?_ hn')
    intro a b ha hb hne ee
    exact hne (tell_inj (hk a ha) (hk b hb) ee)
  rw [etx] at hj7 hr7 ⊢
  refine ⟨O', e, ?_, rows_law us O' hk hnd (by omega) (by omega), ?_, ?_, hj7, hr7⟩
  · by_cases h0 : O' = []
    · subst h0
      exact fwd_nil us
    · exact comma_law us h0 hk (by omega) (by omega)
  · exact bad_law us O' hk hlow hnd (by omega) (by omega)
  · exact drop_law us O' hk hlow hnd (by omega) (by omega)
theorem fTx_okT {t : TI} (h : okI t = true) : (fTx [t]).1 = textI t ++ [10] ∧ textI t ≠ [] := by
  obtain ⟨t', e, hk, htx⟩ := okI_ok h
  refine ⟨?_, ?_⟩
  · unfold fTx
    rw [if_pos ⟨by simp [h], by simp, by simp⟩]
    rfl
  · rw [htx]
    exact (okT_clean hk).1
end Go.Proofs.YtkoncmmbdlnmfaaGreatDoor
