/- Several texts joined into one (a claim has a limit of files). -/
import Derived.Test.YtkoncmmbdlnmfaaGreatDoorLinM
import Derived.Test.YtkoncmmbdlnmfaaGreatDoorEK2
import Derived.SevenTiedAt
import Derived.Deep.SlicePairs
/- slices.Equal over rows of targets. -/
namespace Go.Proofs.YtkoncmmbdlnmfaaGreatDoor
open Go.RowKit Go.Lib
set_option linter.unusedSimpArgs false
set_option linter.unusedVariables false
set_option linter.unnecessarySimpa false
set_option maxRecDepth 100000

def EqRel (l m : List TI) (w : World) (g : Nat) (v13 : Value) (W : World) : Prop :=
  ∃ i : Nat, v13 = .int .i64 (i : Int) ∧ i ≤ l.length ∧ g = l.length - i ∧ Below w.heap.size w W ∧ ∀ j : Nat, j < i → l[j]? = m[j]?
set_option maxHeartbeats 8000000 in
theorem Equal_tg (l m : List TI) (v u : Value) (w : World) (hv : GRow 4 tiC w v l) (hu : GRow 4 tiC w u m) (hl : l.length ≤ 1000000) (hm : m.length ≤ 1000000) :
    Calls Tryz.prog 21 #[v, u] w fun e w' => e = .returned (.bool (decide (l = m))) ∧ Below w.heap.size w w' := by
  have HV := Lib.hid hv
  have HU := Lib.hid hu
  obtain ⟨p, cap, rfl, -⟩ := hv
  obtain ⟨p2, cap2, rfl, -⟩ := hu
  obtain ⟨M, hM⟩ : ∃ M, decide (l = m) = M := ⟨_, rfl⟩
  rw [hM]
  have HM := Lib.hid hM
  clear hM
  rcases Nat.decEq l.length m.length with hll | hll
  · have hne : ((l.length : Int) != (m.length : Int)) = true := by rw [bne_iff_ne]; omega
    obtain rfl : M = false := by
      refine HM.out.symm.trans ?_
      rw [decide_eq_false_iff_not]
      rintro rfl
      exact hll rfl
    go_enter Tryz.func21, Tryz.ntmps21
    go_wp2
    go_ret
    exact ⟨rfl, Below.refl _ _⟩
  have HLL := Lib.hid hll
  rw [← hll] at HU
  rw [← hll]
  clear hll
  go_enter Tryz.func21, Tryz.ntmps21
  go_wp2_with fail
  go_loopg [13] l.length (fun g v13 W => EqRel l m w g v13 W)
  case atStart => exact ⟨0, rfl, Nat.zero_le _, rfl, Below.refl _ _, fun j h => by omega⟩
  case round =>
    obtain ⟨i, rfl, hi, hg, hb, hall⟩ := hrel
    have HG := Lib.hid hg
    have HB := Lib.hid hb
    have HALL := Lib.hid hall
    clear hg hb hall
    by_cases hlt : i < l.length
    · have hi0 : (0 : Int) ≤ (i : Int) := by omega
      have hi1 : (i : Int) < (l.length : Int) := by omega
      have hwk : IntKind.i64.wrap ((i : Int) + 1) = (i : Int) + 1 := by rw [IntKind.wrap_i64]; omega
      have hlm : i < m.length := by have := HLL.out; omega
      have hx := List.getElem?_eq_getElem hlt
      have hy := List.getElem?_eq_getElem hlm
      obtain ⟨T, hT⟩ : ∃ T, l[i] = T := ⟨_, rfl⟩
      obtain ⟨Y, hY⟩ : ∃ Y, m[i] = Y := ⟨_, rfl⟩
      rw [hT] at hx
      rw [hY] at hy
      have HK := Lib.hid hx
      have HK2 := Lib.hid hy
      obtain ⟨p', cap', he, h⟩ := HV.out.below HB.out
      obtain rfl : cap = cap' := by injection he
      obtain rfl : p = p' := by injection he
      obtain ⟨b, o, hpb, hc⟩ := grow_at h hlt
      subst hpb
      clear he h
      obtain ⟨p', cap', he, h⟩ := HU.out.below HB.out
      obtain rfl : cap2 = cap' := by injection he
      obtain rfl : p2 = p' := by injection he
      obtain ⟨b2, o2, hpb, hc2⟩ := grow_at h hlm
      subst hpb
      clear he h
      obtain ⟨tk, ⟨ta, tb⟩, tn⟩ := T
      obtain ⟨xk, ⟨xa, xb⟩, xn⟩ := Y
      have d0 := hc i _ hx 0 (.int .i64 tk) rfl
      have d1 := hc i _ hx 1 (.string ⟨ta.toArray⟩) rfl
      have d2 := hc i _ hx 2 (.string ⟨tb.toArray⟩) rfl
      have d3 := hc i _ hx 3 (.string ⟨tn.toArray⟩) rfl
      rw [Nat.add_zero] at d0
      have e0 := hc2 i _ hy 0 (.int .i64 xk) rfl
      have e1 := hc2 i _ hy 1 (.string ⟨xa.toArray⟩) rfl
      have e2 := hc2 i _ hy 2 (.string ⟨xb.toArray⟩) rfl
      have e3 := hc2 i _ hy 3 (.string ⟨xn.toArray⟩) rfl
      rw [Nat.add_zero] at e0
      clear hc hc2 hx hy hT hY hlm
      by_cases q1 : tk = xk
      · by_cases q2 : ta = xa
        · by_cases q3 : tb = xb
          · by_cases q4 : tn = xn
            · subst q1 q2 q3 q4
              go_wp2_with fail
              go_region
              go_wp2_with fail
              go_roundg (l.length - (i + 1))
              case rel =>
                refine ⟨i + 1, by go_num, by omega, rfl, HB.out.trans ((drew_below wr).mono HB.out.size), fun j hj => ?_⟩
                by_cases hji : j < i
                · exact HALL.out j hji
                · obtain rfl : j = i := by omega
                  rw [HK.out, HK2.out]
              case measure => have := HG.out; omega
            · have hne : ¬ tn = xn := q4
              have HNE := Lib.hid (show ((tk, (ta, tb), tn) : TI) ≠ (xk, (xa, xb), xn) from fun e => hne (by simp only [Prod.mk.injEq] at e; exact e.2.2))
              subst q1 q2 q3
              have q4b : (tn == xn) = false := by rw [beq_eq_false_iff_ne]; exact hne
              obtain rfl : M = false := by
                refine HM.out.symm.trans ?_
                rw [decide_eq_false_iff_not]
                rintro rfl
                have h1 := HK.out
                rw [HK2.out] at h1
                cases h1
                exact hne rfl
              go_wp2_with fail
              go_region
              go_wp2
              go_ret
              exact ⟨rfl, HB.out.trans ((drew_below wr).mono HB.out.size)⟩
          · have hne : ¬ tb = xb := q3
            have HNE := Lib.hid (show ((tk, (ta, tb), tn) : TI) ≠ (xk, (xa, xb), xn) from fun e => hne (by simp only [Prod.mk.injEq] at e; exact e.2.1.2))
            subst q1 q2
            have q4b : (tb == xb) = false := by rw [beq_eq_false_iff_ne]; exact hne
            obtain rfl : M = false := by
              refine HM.out.symm.trans ?_
              rw [decide_eq_false_iff_not]
              rintro rfl
              have h1 := HK.out
              rw [HK2.out] at h1
              cases h1
              exact hne rfl
            go_wp2_with fail
            go_region
            go_wp2
            go_ret
            exact ⟨rfl, HB.out.trans ((drew_below wr).mono HB.out.size)⟩
        · have hne : ¬ ta = xa := q2
          have HNE := Lib.hid (show ((tk, (ta, tb), tn) : TI) ≠ (xk, (xa, xb), xn) from fun e => hne (by simp only [Prod.mk.injEq] at e; exact e.2.1.1))
          subst q1
          have q4b : (ta == xa) = false := by rw [beq_eq_false_iff_ne]; exact hne
          obtain rfl : M = false := by
            refine HM.out.symm.trans ?_
            rw [decide_eq_false_iff_not]
            rintro rfl
            have h1 := HK.out
            rw [HK2.out] at h1
            cases h1
            exact hne rfl
          go_wp2_with fail
          go_region
          go_wp2
          go_ret
          exact ⟨rfl, HB.out.trans ((drew_below wr).mono HB.out.size)⟩
      · have hne : ¬ tk = xk := q1
        have HNE := Lib.hid (show ((tk, (ta, tb), tn) : TI) ≠ (xk, (xa, xb), xn) from fun e => hne (by simp only [Prod.mk.injEq] at e; exact e.1))
        have q4b : (tk == xk) = false := by rw [beq_eq_false_iff_ne]; exact hne
        obtain rfl : M = false := by
          refine HM.out.symm.trans ?_
          rw [decide_eq_false_iff_not]
          rintro rfl
          have h1 := HK.out
          rw [HK2.out] at h1
          cases h1
          exact hne rfl
        go_wp2_with fail
        go_region
        go_wp2
        go_ret
        exact ⟨rfl, HB.out.trans ((drew_below wr).mono HB.out.size)⟩
    · have hik : i = l.length := by omega
      have hge : ¬ (i : Int) < (l.length : Int) := by omega
      obtain rfl : M = true := by
        refine HM.out.symm.trans ?_
        rw [decide_eq_true_eq]
        apply List.ext_getElem?
        intro j
        by_cases hj : j < i
        · exact HALL.out j hj
        · have := HLL.out
          rw [List.getElem?_eq_none (by omega), List.getElem?_eq_none (by omega)]
      subst hik
      clear hge
      have hge : ¬ (l.length : Int) < (l.length : Int) := by omega
      go_wp2
      go_ret
      exact ⟨rfl, HB.out⟩
end Go.Proofs.YtkoncmmbdlnmfaaGreatDoor

/- A row of targets that comes in. -/
namespace Go.Proofs.YtkoncmmbdlnmfaaGreatDoor
open Go.ChangeShapes Go.WideShapes Go.RowKit Go.Lib
set_option linter.unusedSimpArgs false
set_option linter.unusedVariables false
set_option maxRecDepth 100000

theorem four_of {l : List Value} (h : l.length = 4) : ∃ a b c d, l = [a, b, c, d] := by
  match l, h with
  | [a, b, c, d], _ => exact ⟨a, b, c, d, rfl⟩
theorem in_rowT {H : Type} {enc : TypeId × Value → H} {W : World} {base : Nat} {v : Value} {d : DataW H} {ps : List MemPlace} (hv : Value.okWide Tryz.prog W .any base 22 v)
    (h : DataW.Trod enc Tryz.prog W 0 (fun _ => true) true 22 v d ps) : ∃ l : List TI, GRow 4 tiC W v l := by
  simp only [Value.okWide, Tryz.underlying22] at hv
  obtain ⟨fuel, h⟩ := h
  cases v with
  | slice p len cap =>
    cases p with
    | none =>
      simp only [Cell.okWide, Cell.ok, Tryz.underlying22] at hv
      have h0 : len = 0 := by
        rcases Nat.eq_zero_or_pos len with h0 | h0
        · exact h0
        · exfalso
          split at hv <;> simp_all
      subst h0
      exact ⟨[], none, cap, rfl, .inl rfl⟩
    | some a =>
      simp only [Cell.okWide, Cell.ok, Tryz.underlying22] at hv
      obtain ⟨hlc, hcm, hhas⟩ := hv
      have hsp : a.spot = none := hhas.2.1
      obtain ⟨b, o, sp⟩ := a
      simp only at hsp
      subst hsp
      have h' : DataW.trod enc Tryz.prog W 0 (fun _ => true) true fuel 22 [.slice (some ⟨b, o, none⟩) len cap] = some (d, ps) := h
      rcases Go.Deep.open_slice Tryz.underlying22 h' with ⟨hc, hx⟩ | ⟨a, len', cap', m, n, D, Pl, hc, _, hl, hmm, hmx', hx, hall⟩
      · cases hc
      · simp only [List.cons.injEq, Value.slice.injEq, Option.some.injEq, and_true] at hc
        obtain ⟨rfl, rfl, rfl⟩ := hc
        have hlm : len ≤ m := by rw [hmx']; simp; omega
        have hadd : ∀ j, (⟨b, o, none⟩ : Addr).add j = ⟨b, o + j, none⟩ := fun j => by unfold Addr.add; split <;> simp_all
        have each : ∀ i, i < len → ∃ t : TI, ∀ (j : Nat) (u : Value), (tiC t)[j]? = some u → W.cell? ⟨b, o + i * 4 + j, none⟩ = some u := by
          intro i hi
          obtain ⟨cs', h1, h2⟩ := hall i (by omega)
          rw [show Tryz.prog.cellsOf 28 = 4 by kernel_rfl] at h1
          obtain ⟨_, hlen, hcell⟩ := World.cells?_some h1
          obtain ⟨c0, c1, c2, c3, rfl⟩ := four_of hlen
          obtain ⟨xs, k, -, -, -, hxl, hf⟩ := DataW.trod_struct Tryz.underlying28 h2
          have g0 := hf 0 _ rfl
          have g1 := hf 1 _ rfl
          have g2 := hf 2 _ rfl
          have hx3 : xs.length = 3 := hxl
          match xs, hx3 with
          | [y0, y1, y2], _ =>
            have g0' : DataW.trod enc Tryz.prog W 0 (fun _ => true) true k 3 [c0] = some y0 := g0
            have g1' : DataW.trod enc Tryz.prog W 0 (fun _ => true) true k 26 [c1, c2] = some y1 := g1
            have g2' : DataW.trod enc Tryz.prog W 0 (fun _ => true) true k 9 [c3] = some y2 := g2
            obtain ⟨z, e0, -, -⟩ := DataW.trod_int Tryz.underlying3 g0'
            obtain ⟨s3, e3, -, -⟩ := DataW.trod_string Tryz.underlying9 g2'
            obtain ⟨xs1, k1, -, -, -, hxl1, hf1⟩ := DataW.trod_struct Tryz.underlying26 g1'
            have f0 := hf1 0 _ rfl
            have f1 := hf1 1 _ rfl
            have hx2 : xs1.length = 2 := hxl1
            match xs1, hx2 with
            | [w0, w1], _ =>
              have f0' : DataW.trod enc Tryz.prog W 0 (fun _ => true) true k1 9 [c1] = some w0 := f0
              have f1' : DataW.trod enc Tryz.prog W 0 (fun _ => true) true k1 9 [c2] = some w1 := f1
              obtain ⟨s1, e1, -, -⟩ := DataW.trod_string Tryz.underlying9 f0'
              obtain ⟨s2, e2, -, -⟩ := DataW.trod_string Tryz.underlying9 f1'
              simp only [List.cons.injEq, and_true] at e0 e1 e2 e3
              subst e0 e1 e2 e3
              refine ⟨(z, (s1.data.toList, s2.data.toList), s3.data.toList), fun j u hu => ?_⟩
              have hj : j < 4 := (List.getElem?_eq_some_iff.1 hu).1
              have hc := hcell j (by simpa using hj)
              rw [hadd, show ((⟨b, o + i * 4, none⟩ : Addr).add j) = ⟨b, o + i * 4 + j, none⟩ by unfold Addr.add; split <;> simp_all] at hc
              rw [hc, ← hu]
              rfl
        obtain ⟨f, hf⟩ := Go.Deep.choose_lt each
        have hlen : ((List.range len).map f).length = len := by simp
        refine ⟨(List.range len).map f, some ⟨b, o, none⟩, cap, by rw [hlen], ?_⟩
        by_cases h0 : len = 0
        · subst h0
          exact .inl rfl
        · have hb : b < W.heap.size := by
            have := hf 0 (by omega) 0 _ rfl
            unfold World.cell? at this
            by_cases hbs : b < W.heap.size
            · exact hbs
            · simp only at this
              rw [Array.getElem?_eq_none (by omega)] at this
              cases this
          refine .inr ⟨b, o, rfl, hb, fun i x hx j u hu => ?_⟩
          have hil : i < len := by have := (List.getElem?_eq_some_iff.1 hx).1; omega
          have : f i = x := by
            rw [List.getElem?_map, List.getElem?_range hil] at hx
            exact Option.some.inj hx
          subst this
          exact hf i hil j u hu
  | _ => simp [Cell.okWide, Cell.ok, Tryz.underlying22] at hv
end Go.Proofs.YtkoncmmbdlnmfaaGreatDoor
