/- Several texts joined into one (a claim has a limit of files). -/
import Derived.Test.YtkoncmmbdlnmfaaGreatDoorZR2
import Derived.Test.YtkoncmmbdlnmfaaGreatDoorEK5
import Derived.Test.YtkoncmmbdlnmfaaGreatDoorEK8
import Derived.Deep.RegionHeld3
import Derived.Test.YtkoncmmbdlnmfaaGreatDoorZR1
import Derived.Deep.DeepCutAuto
import Derived.Test.YtkoncmmbdlnmfaaGreatDoorOwnW
/- The law's Of and Same: targets as the document's; the document's Text of targets (package 16). -/
namespace Go.Proofs.YtkoncmmbdlnmfaaGreatDoor
open Go.RowKit Go.Lib
set_option linter.unusedSimpArgs false
set_option linter.unusedVariables false
set_option linter.unnecessarySimpa false
set_option maxRecDepth 100000

theorem info102 : (Tryz.prog.info? 102).map (fun i => (i.zero, i.size, i.bytes)) = some (some (.agg #[.int .i64 0, .string ⟨#[]⟩, .string ⟨#[]⟩, .string ⟨#[]⟩]), 4, 56) := by kernel_rfl
/-- one element more on a row of the call's own, at a step of a region that draws its order. -/
theorem step_gen {ops : Array Oper} {o : Oper} {a : Act} {K : Act → World → Prop} {Q : Exit → Act → World → Prop} {E : Prop} {w : World} (hgd : o.guard = none) (s x : Operand) (t e k by' : Nat) (z : Value)
    (ht : Tryz.prog.underlying t = some (.slice e)) (hinfo : (Tryz.prog.info? e).map (fun i => (i.zero, i.size, i.bytes)) = some (some z, k, by')) (hzs : z.cells.size = k) (hk : 0 < k) (hby : by' ≤ 64)
    (ho : o.op = .call { callee := .builtin .append, args := #[s, x], argTypes := #[t, t] })
    (B : Nat) (v : Value) (n : Nat) (xs : List Value) (hs : a.eval s = v) (hown : w.ownsRow B e k v n xs) (c cp : Nat) (news : List Value) (hx : a.eval x = .slice (some ⟨c, 0, none⟩) 1 cp)
    (hl : news.length = k) (hnews : ∀ (j : Nat) (u : Value), news[j]? = some u → w.cell? ⟨c, j, none⟩ = some u) (h1 : ∀ u ∈ news, u.oneCell' = true) (hlen : n + 1 ≤ 2147483648) (hbase : B ≤ w.heap.size)
    (h : ∀ g cap w', w'.ownsRow B e k (.slice (some ⟨g, 0, none⟩) (n + 1) cap) (n + 1) (xs ++ news) → w.grownBy w' v.ownBlock → K (a.put o.dst (.slice (some ⟨g, 0, none⟩) (n + 1) cap)) w') :
    if Region.wanted o (yielded ops a.tmps) = true then Oper.wp Tryz.prog o a w K Q else E := by
  obtain ⟨i0, hi, hz0, hz1, hz2⟩ := info_parts hinfo
  have hadd : ∀ j, (⟨c, 0, none⟩ : Addr).add j = ⟨c, j, none⟩ := fun j => by unfold Addr.add; split <;> simp_all
  refine step_append_lies w hgd s x t ho B e i0 z k by' ht hi hz0 hz1 hz2 hzs hk v n xs hs hown ⟨c, 0, none⟩ 1 cp news hx (by rw [hl, Nat.one_mul]) (fun j u hj => by rw [hadd]; exact hnews j u hj) h1 (by decide) (by unfold maxLen; omega) ?_ hbase w.heap.size rfl ?_
  · calc (n + 1) * by' ≤ 2147483648 * 64 := Nat.mul_le_mul hlen hby
      _ ≤ 140737488355328 := by decide
  · intro g cap w' h2 h3 h4 _
    exact h g cap w' h2 h3
def OfRel (l : List TI) (w : World) (g : Nat) (v3 v4 : Value) (W : World) : Prop :=
  ∃ i : Nat, v4 = .int .i64 (i : Int) ∧ i ≤ l.length ∧ g = l.length - i ∧ W.ownsRow w.heap.size 102 4 v3 i ((l.take i).flatMap tiC) ∧ Below w.heap.size w W
set_option maxHeartbeats 8000000 in
theorem Of_any (l : List TI) (v : Value) (w : World) (hrow : GRow 4 tiC w v l) (hl : l.length ≤ 1000000) :
    Calls Tryz.prog 19 #[v] w fun e w' => ∃ v', e = .returned v' ∧ GRow 4 tiC w' v' l ∧ Below w.heap.size w w' := by
  have HROW := Lib.hid hrow
  obtain ⟨p, cap, rfl, -⟩ := hrow
  go_enter Tryz.func19, Tryz.ntmps19
  go_wp2_with fail
  go_loopg [3, 4] l.length (fun g v3 v4 W => OfRel l w g v3 v4 W)
  case atStart => exact ⟨0, rfl, Nat.zero_le _, rfl, World.ownsRow_nil _ _ _ _, Below.refl _ _⟩
  case round =>
    obtain ⟨i, rfl, hi, hg, hown, hb⟩ := hrel
    have HG := Lib.hid hg
    have HO := Lib.hid hown
    have HBW := Lib.hid hb
    clear hg hown hb
    by_cases hlt : i < l.length
    · have hi0 : (0 : Int) ≤ (i : Int) := by omega
      have hi1 : (i : Int) < (l.length : Int) := by omega
      have hwk : IntKind.i64.wrap ((i : Int) + 1) = (i : Int) + 1 := by rw [IntKind.wrap_i64]; omega
      have hx := List.getElem?_eq_getElem hlt
      obtain ⟨T, hT⟩ : ∃ T, l[i] = T := ⟨_, rfl⟩
      rw [hT] at hx
      have HTK := Lib.hid (show (l.take (i + 1)).flatMap tiC = (l.take i).flatMap tiC ++ tiC T by rw [List.take_add_one, hx]; simp)
      obtain ⟨p', cap', he, h⟩ := HROW.out
      obtain rfl : cap = cap' := by injection he
      obtain rfl : p = p' := by injection he
      obtain ⟨b, o, hpb, hc⟩ := grow_at h hlt
      subst hpb
      obtain ⟨k, ⟨a, b'⟩, n⟩ := T
      have HC := Lib.hid (fun W (hb : Below w.heap.size w W) => show W.cell? ⟨b, o + i * 4, none⟩ = some (.int .i64 k) ∧ W.cell? ⟨b, o + i * 4 + 1, none⟩ = some (.string ⟨a.toArray⟩) ∧ W.cell? ⟨b, o + i * 4 + 1 + 1, none⟩ = some (.string ⟨b'.toArray⟩) ∧ W.cell? ⟨b, o + i * 4 + 3, none⟩ = some (.string ⟨n.toArray⟩) from by
        obtain ⟨p2, cap2, he2, h2⟩ := HROW.out.below hb
        obtain ⟨b2, o2, hpb2, hc2⟩ := grow_at h2 hlt
        rw [hpb2] at he2
        injection he2 with e1
        injection e1 with e1
        injection e1 with e1 e3
        subst e1 e3
        have q0 := hc2 i _ hx 0 (.int .i64 k) rfl
        have q1 := hc2 i _ hx 1 (.string ⟨a.toArray⟩) rfl
        have q2 := hc2 i _ hx 2 (.string ⟨b'.toArray⟩) rfl
        have q3 := hc2 i _ hx 3 (.string ⟨n.toArray⟩) rfl
        rw [Nat.add_zero] at q0
        exact ⟨q0, q1, q2, q3⟩)
      obtain ⟨c0, c1, c2, c3⟩ := HC.out wr HBW.out
      have hbs := HBW.out.size
      have HBD := Lib.hid (HBW.out.trans ((drew_below wr).mono HBW.out.size))
      have HBA := Lib.hid ((HBW.out.alloc hbs (.cells #[.int .i64 k, .string ⟨a.toArray⟩, .string ⟨b'.toArray⟩, .string ⟨n.toArray⟩] 102)).trans ((drew_below (wr.alloc (.cells #[.int .i64 k, .string ⟨a.toArray⟩, .string ⟨b'.toArray⟩, .string ⟨n.toArray⟩] 102))).mono (by rw [World.size_alloc]; exact Nat.le_succ_of_le hbs)))
      have HOA := Lib.hid (own_low (World.ownsRow.alloc (w := wr) HO.out (.cells #[.int .i64 k, .string ⟨a.toArray⟩, .string ⟨b'.toArray⟩, .string ⟨n.toArray⟩] 102)) (drew_below _))
      clear hc hx hT he h
      go_wp2_with fail
      go_region_held3 (fun W => W.cell? ⟨b, o + i * 4, none⟩ = some (.int .i64 k) ∧ W.cell? ⟨b, o + i * 4 + 1, none⟩ = some (.string ⟨a.toArray⟩) ∧ W.cell? ⟨b, o + i * 4 + 1 + 1, none⟩ = some (.string ⟨b'.toArray⟩) ∧ W.cell? ⟨b, o + i * 4 + 3, none⟩ = some (.string ⟨n.toArray⟩))
        (first | exact HC.out _ HBD.out | exact HC.out _ HBA.out | exact HC.out _ (HBA.out.grown hgr (by show w.heap.size ≤ (wr.alloc _).heap.size; rw [World.size_alloc]; exact Nat.le_succ_of_le hbs) (own_ge HO.out)))
        ((refine step_gen rfl _ _ 35 102 4 56 (.agg #[.int .i64 0, .string ⟨#[]⟩, .string ⟨#[]⟩, .string ⟨#[]⟩]) Tryz.underlying35 info102 rfl (by decide) (by decide) rfl w.heap.size _ _ _ rfl HOA.out wr.heap.size 1 [.int .i64 k, .string ⟨a.toArray⟩, .string ⟨b'.toArray⟩, .string ⟨n.toArray⟩] rfl rfl (cells4d _ _ _ _ _ _) (by intro u hu; simp at hu; rcases hu with rfl | rfl | rfl | rfl <;> rfl) (by omega) (by show w.heap.size ≤ (wr.alloc _).heap.size; rw [World.size_alloc]; exact Nat.le_succ_of_le hbs) ?_; intro g' cap' w6 hown6 hgr))
      go_wp2_with fail
      go_roundg (l.length - (i + 1))
      case rel =>
        refine ⟨i + 1, by go_num, by omega, rfl, ?_, HBA.out.grown hgr (by show w.heap.size ≤ (wr.alloc _).heap.size; rw [World.size_alloc]; exact Nat.le_succ_of_le hbs) (own_ge HO.out)⟩
        rw [HTK.out]
        exact hown6
      case measure => have := HG.out; omega
    · have hik : i = l.length := by omega
      subst hik
      have hge : ¬ (l.length : Int) < (l.length : Int) := by omega
      have hown := HO.out
      rw [List.take_length] at hown
      have HR := Lib.hid (GRow.of (C := tiC) tiC_len hown)
      clear hown
      go_wp2
      go_ret
      exact ⟨_, rfl, HR.out, HBW.out⟩
def SmRel (l m : List TI) (w : World) (g : Nat) (v13 : Value) (W : World) : Prop :=
  ∃ i : Nat, v13 = .int .i64 (i : Int) ∧ i ≤ l.length ∧ g = l.length - i ∧ Below w.heap.size w W ∧ ∀ j : Nat, j < i → l[j]? = m[j]?
set_option maxHeartbeats 8000000 in
theorem Same_any (l m : List TI) (v u : Value) (w : World) (hv : GRow 4 tiC w v l) (hu : GRow 4 tiC w u m) (hl : l.length ≤ 1000000) (hm : m.length ≤ 1000000) :
    Calls Tryz.prog 20 #[v, u] w fun e w' => e = .returned (.bool (decide (l = m))) ∧ Below w.heap.size w w' := by
  have HV := Lib.hid hv
  have HU := Lib.hid hu
  obtain ⟨p, cap, rfl, -⟩ := hv
  obtain ⟨p2, cap2, rfl, -⟩ := hu
  obtain ⟨M, hM⟩ : ∃ M, decide (l = m) = M := ⟨_, rfl⟩
  rw [hM]
  have HM := Lib.hid hM
  clear hM
  rcases Nat.decEq l.length m.length with hll | hll
  · have hne : ((l.length : Int) != (m.length : Int)) = true := by rw [bne_iff_ne]; omega
    obtain rfl : M = false := by
      refine HM.out.symm.trans ?_
      rw [decide_eq_false_iff_not]
      rintro rfl
      exact hll rfl
    go_enter Tryz.func20, Tryz.ntmps20
    go_wp2
    go_ret
    exact ⟨rfl, Below.refl _ _⟩
  have HLL := Lib.hid hll
  rw [← hll] at HU
  rw [← hll]
  clear hll
  go_enter Tryz.func20, Tryz.ntmps20
  go_wp2_with fail
  go_loopg [5] l.length (fun g v13 W => SmRel l m w g v13 W)
  case atStart => exact ⟨0, rfl, Nat.zero_le _, rfl, Below.refl _ _, fun j h => by omega⟩
  case round =>
    obtain ⟨i, rfl, hi, hg, hb, hall⟩ := hrel
    have HG := Lib.hid hg
    have HB := Lib.hid hb
    have HALL := Lib.hid hall
    clear hg hb hall
    by_cases hlt : i < l.length
    · have hi0 : (0 : Int) ≤ (i : Int) := by omega
      have hi1 : (i : Int) < (l.length : Int) := by omega
      have hwk : IntKind.i64.wrap ((i : Int) + 1) = (i : Int) + 1 := by rw [IntKind.wrap_i64]; omega
      have hlm : i < m.length := by have := HLL.out; omega
      have hx := List.getElem?_eq_getElem hlt
      have hy := List.getElem?_eq_getElem hlm
      obtain ⟨T, hT⟩ : ∃ T, l[i] = T := ⟨_, rfl⟩
      obtain ⟨Y, hY⟩ : ∃ Y, m[i] = Y := ⟨_, rfl⟩
      rw [hT] at hx
      rw [hY] at hy
      have HK := Lib.hid hx
      have HK2 := Lib.hid hy
      obtain ⟨p', cap', he, h⟩ := HV.out.below HB.out
      obtain rfl : cap = cap' := by injection he
      obtain rfl : p = p' := by injection he
      obtain ⟨b, o, hpb, hc⟩ := grow_at h hlt
      subst hpb
      clear he h
      obtain ⟨p', cap', he, h⟩ := HU.out.below HB.out
      obtain rfl : cap2 = cap' := by injection he
      obtain rfl : p2 = p' := by injection he
      obtain ⟨b2, o2, hpb, hc2⟩ := grow_at h hlm
      subst hpb
      clear he h
      obtain ⟨tk, ⟨ta, tb⟩, tn⟩ := T
      obtain ⟨xk, ⟨xa, xb⟩, xn⟩ := Y
      have d0 := hc i _ hx 0 (.int .i64 tk) rfl
      have d1 := hc i _ hx 1 (.string ⟨ta.toArray⟩) rfl
      have d2 := hc i _ hx 2 (.string ⟨tb.toArray⟩) rfl
      have d3 := hc i _ hx 3 (.string ⟨tn.toArray⟩) rfl
      rw [Nat.add_zero] at d0
      have e0 := hc2 i _ hy 0 (.int .i64 xk) rfl
      have e1 := hc2 i _ hy 1 (.string ⟨xa.toArray⟩) rfl
      have e2 := hc2 i _ hy 2 (.string ⟨xb.toArray⟩) rfl
      have e3 := hc2 i _ hy 3 (.string ⟨xn.toArray⟩) rfl
      rw [Nat.add_zero] at e0
      clear hc hc2 hx hy hT hY hlm
      by_cases q1 : tk = xk
      · by_cases q2 : ta = xa
        · by_cases q3 : tb = xb
          · by_cases q4 : tn = xn
            · subst q1 q2 q3 q4
              go_wp2_with fail
              go_region
              go_wp2_with fail
              go_roundg (l.length - (i + 1))
              case rel =>
                refine ⟨i + 1, by go_num, by omega, rfl, HB.out.trans ((drew_below wr).mono HB.out.size), fun j hj => ?_⟩
                by_cases hji : j < i
                · exact HALL.out j hji
                · obtain rfl : j = i := by omega
                  rw [HK.out, HK2.out]
              case measure => have := HG.out; omega
            · have hne : ¬ tn = xn := q4
              have HNE := Lib.hid (show ((tk, (ta, tb), tn) : TI) ≠ (xk, (xa, xb), xn) from fun e => hne (by simp only [Prod.mk.injEq] at e; exact e.2.2))
              subst q1 q2 q3
              have q4b : (tn == xn) = false := by rw [beq_eq_false_iff_ne]; exact hne
              obtain rfl : M = false := by
                refine HM.out.symm.trans ?_
                rw [decide_eq_false_iff_not]
                rintro rfl
                have h1 := HK.out
                rw [HK2.out] at h1
                cases h1
                exact hne rfl
              go_wp2_with fail
              go_region
              go_wp2
              go_ret
              exact ⟨rfl, HB.out.trans ((drew_below wr).mono HB.out.size)⟩
          · have hne : ¬ tb = xb := q3
            have HNE := Lib.hid (show ((tk, (ta, tb), tn) : TI) ≠ (xk, (xa, xb), xn) from fun e => hne (by simp only [Prod.mk.injEq] at e; exact e.2.1.2))
            subst q1 q2
            have q4b : (tb == xb) = false := by rw [beq_eq_false_iff_ne]; exact hne
            obtain rfl : M = false := by
              refine HM.out.symm.trans ?_
              rw [decide_eq_false_iff_not]
              rintro rfl
              have h1 := HK.out
              rw [HK2.out] at h1
              cases h1
              exact hne rfl
            go_wp2_with fail
            go_region
            go_wp2
            go_ret
            exact ⟨rfl, HB.out.trans ((drew_below wr).mono HB.out.size)⟩
        · have hne : ¬ ta = xa := q2
          have HNE := Lib.hid (show ((tk, (ta, tb), tn) : TI) ≠ (xk, (xa, xb), xn) from fun e => hne (by simp only [Prod.mk.injEq] at e; exact e.2.1.1))
          subst q1
          have q4b : (ta == xa) = false := by rw [beq_eq_false_iff_ne]; exact hne
          obtain rfl : M = false := by
            refine HM.out.symm.trans ?_
            rw [decide_eq_false_iff_not]
            rintro rfl
            have h1 := HK.out
            rw [HK2.out] at h1
            cases h1
            exact hne rfl
          go_wp2_with fail
          go_region
          go_wp2
          go_ret
          exact ⟨rfl, HB.out.trans ((drew_below wr).mono HB.out.size)⟩
      · have hne : ¬ tk = xk := q1
        have HNE := Lib.hid (show ((tk, (ta, tb), tn) : TI) ≠ (xk, (xa, xb), xn) from fun e => hne (by simp only [Prod.mk.injEq] at e; exact e.1))
        have q4b : (tk == xk) = false := by rw [beq_eq_false_iff_ne]; exact hne
        obtain rfl : M = false := by
          refine HM.out.symm.trans ?_
          rw [decide_eq_false_iff_not]
          rintro rfl
          have h1 := HK.out
          rw [HK2.out] at h1
          cases h1
          exact hne rfl
        go_wp2_with fail
        go_region
        go_wp2
        go_ret
        exact ⟨rfl, HB.out.trans ((drew_below wr).mono HB.out.size)⟩
    · have hik : i = l.length := by omega
      have hge : ¬ (i : Int) < (l.length : Int) := by omega
      obtain rfl : M = true := by
        refine HM.out.symm.trans ?_
        rw [decide_eq_true_eq]
        apply List.ext_getElem?
        intro j
        by_cases hj : j < i
        · exact HALL.out j hj
        · have := HLL.out
          rw [List.getElem?_eq_none (by omega), List.getElem?_eq_none (by omega)]
      subst hik
      clear hge
      have hge : ¬ (l.length : Int) < (l.length : Int) := by omega
      go_wp2
      go_ret
      exact ⟨rfl, HB.out⟩
end Go.Proofs.YtkoncmmbdlnmfaaGreatDoor

/- The document's Text of targets (package 16). -/
namespace Go.Proofs.YtkoncmmbdlnmfaaGreatDoor
open Go.RowKit Go.Lib
set_option linter.unusedSimpArgs false
set_option linter.unusedVariables false
set_option linter.unnecessarySimpa false
set_option maxRecDepth 100000

theorem textI_one {t : TI} (h : textI t ≠ []) : 1 ≤ t.1 := by
  unfold textI at h
  split at h
  · rename_i hm
    cases hf : targF (tellF t) with
    | none => rw [hf] at hm; cases hm
    | some t' =>
      rw [hf] at hm
      injection hm with hm
      have := (targF_low hf).1
      rw [← hm]
      show (1 : Int) ≤ (t'.1 : Int)
      omega
  · exact absurd rfl h
theorem joinC_snoc : ∀ (l : List (List UInt8)) (x : List UInt8), l ≠ [] → joinC (l ++ [x]) = (joinC l ++ [44, 32]) ++ x
  | [], _, h => absurd rfl h
  | [y], x, _ => by
    show y ++ 44 :: 32 :: x = (y ++ [44, 32]) ++ x
    simp
  | y :: z :: r, x, _ => by
    have ih := joinC_snoc (z :: r) x (by simp)
    show y ++ 44 :: 32 :: joinC ((z :: r) ++ [x]) = ((y ++ 44 :: 32 :: joinC (z :: r)) ++ [44, 32]) ++ x
    rw [ih]
    simp
def Tx16Rel (l : List TI) (w : World) (g : Nat) (v4 v5 : Value) (W : World) : Prop :=
  ∃ i : Nat, v5 = .int .i64 (i : Int) ∧ v4 = .string ⟨(joinC ((l.take i).map textI)).toArray⟩ ∧ i ≤ l.length ∧ g = l.length - i ∧ (∀ t ∈ l.take i, okI t = true) ∧ Below w.heap.size w W
def Q34Rel (x : List UInt8) (w : World) (g : Nat) (v7 : Value) (W : World) : Prop :=
  ∃ i : Nat, v7 = .int .i64 (i : Int) ∧ i ≤ x.length ∧ g = x.length - i ∧ W = w ∧ (x.take i).contains 34 = false
theorem q34_not {t : List UInt8} {i : Nat} {b : UInt8} (h : t[i]? = some b) (hb : b = 34) : t.contains 34 = true := by
  subst hb
  rw [List.contains_eq_mem, decide_eq_true_eq]
  exact List.mem_of_getElem? h
theorem q34_step {t : List UInt8} {i : Nat} {b : UInt8} (h : t[i]? = some b) (hb : b ≠ 34) (ha : (t.take i).contains 34 = false) : (t.take (i + 1)).contains 34 = false := by
  rw [List.take_add_one, h]
  rw [List.contains_eq_mem, decide_eq_false_iff_not] at ha ⊢
  intro hm
  rcases List.mem_append.1 hm with hm | hm
  · exact ha hm
  · simp at hm
    exact hb hm.symm
set_option maxHeartbeats 16000000 in
theorem Text16 (l : List TI) (v : Value) (w : World) (hrow : GRow 4 tiC w v l) (hl : l.length ≤ 100000) (hsz : ∀ t ∈ l, t.2.1.1.length ≤ 1000 ∧ t.2.1.2.length ≤ 1000 ∧ t.2.2.length ≤ 1000) :
    Calls Tryz.prog 18 #[v] w fun e w' => e = .returned (.tuple #[.string ⟨(fTx l).1.toArray⟩, .bool (fTx l).2]) ∧ Below w.heap.size w w' := by
  have HBAD := Lib.hid (fun t h ht => fTx_bad (l := l) (t := t) h ht)
  have hfin : fTx l = if l.all okI = true ∧ l ≠ [] ∧ l.length ≤ 16 then (joinC (l.map textI) ++ [10], true) else ([], false) := rfl
  generalize fTx l = R at HBAD hfin ⊢
  have HFIN := Lib.hid hfin
  have HROW := Lib.hid hrow
  have HSZ := Lib.hid hsz
  obtain ⟨p, cap, rfl, -⟩ := hrow
  clear hfin hsz
  by_cases h0 : l.length < 1
  · have k0 : (l.length : Int) < 1 := by omega
    have k0d : decide ((l.length : Int) < 1) = true := by rw [decide_eq_true_eq]; exact k0
    have hl0 := List.eq_nil_of_length_eq_zero (show l.length = 0 by omega)
    have hR : R = ([], false) := by rw [HFIN.out, if_neg (fun e => e.2.1 hl0)]
    subst hR
    clear hl0 HFIN HBAD
    go_enter Tryz.func18, Tryz.ntmps18
    go_wp2
    go_ret2
    exact ⟨rfl, Below.refl _ _⟩
  have k0 : ¬ (l.length : Int) < 1 := by omega
  have k0d : decide ((l.length : Int) < 1) = false := by rw [decide_eq_false_iff_not]; exact k0
  by_cases h16 : 16 < l.length
  · have k1 : (16 : Int) < (l.length : Int) := by omega
    have k1d : decide ((16 : Int) < (l.length : Int)) = true := by rw [decide_eq_true_eq]; exact k1
    have hR : R = ([], false) := by rw [HFIN.out, if_neg (fun e => by have := e.2.2; omega)]
    subst hR
    clear HFIN HBAD
    go_enter Tryz.func18, Tryz.ntmps18
    go_wp2
    go_ret2
    exact ⟨rfl, Below.refl _ _⟩
  have k1 : ¬ (16 : Int) < (l.length : Int) := by omega
  have k1d : decide ((16 : Int) < (l.length : Int)) = false := by rw [decide_eq_false_iff_not]; exact k1
  have hl16 : l.length ≤ 16 := by omega
  have hne : l ≠ [] := by
    rintro rfl
    simp at h0
  have HNE := Lib.hid hne
  clear hne h16 h0
  go_enter Tryz.func18, Tryz.ntmps18
  go_wp2_with fail
  go_loopg [4, 5] l.length (fun g v4 v5 W => Tx16Rel l w g v4 v5 W)
  case atStart => exact ⟨0, rfl, rfl, Nat.zero_le _, rfl, fun t ht => by simp at ht, Below.refl _ _⟩
  case round =>
    obtain ⟨i, rfl, rfl, hi, hg, hok, hb⟩ := hrel
    have HG := Lib.hid hg
    have HOK := Lib.hid hok
    have HBW := Lib.hid hb
    clear hg hok hb
    have hjl := joinC_len ((l.take i).map textI) 4020 (fun x hx => by
      obtain ⟨t, ht, rfl⟩ := List.mem_map.1 hx
      have h1 := textI_len t
      obtain ⟨h2, h3, h4⟩ := HSZ.out t (List.mem_of_mem_take ht)
      omega)
    rw [List.length_map, List.length_take] at hjl
    have hjl2 : (joinC ((l.take i).map textI)).length ≤ 70000 := by
      have : min i l.length * (4020 + 2) ≤ 16 * 4022 := Nat.mul_le_mul_right _ (by omega)
      omega
    by_cases hlt : i < l.length
    · have i0 : (0 : Int) ≤ (i : Int) := by omega
      have i1 : (i : Int) < (l.length : Int) := by omega
      have iw : IntKind.i64.wrap ((i : Int) + 1) = (i : Int) + 1 := by rw [IntKind.wrap_i64]; omega
      have hx := List.getElem?_eq_getElem hlt
      obtain ⟨T, hT⟩ : ∃ T, l[i] = T := ⟨_, rfl⟩
      rw [hT] at hx
      have hmem : T ∈ l := by rw [← hT]; exact List.getElem_mem hlt
      obtain ⟨z1, z2, z3⟩ := HSZ.out T hmem
      have HTK := Lib.hid (show l.take (i + 1) = l.take i ++ [T] by rw [List.take_add_one, hx]; rfl)
      obtain ⟨p', cap', he, h⟩ := HROW.out.below HBW.out
      obtain rfl : cap = cap' := by injection he
      obtain rfl : p = p' := by injection he
      obtain ⟨b, o, hpb, hc⟩ := grow_at h hlt
      subst hpb
      clear he h
      have HTX := Lib.hid (fun W => Text14 T (by omega) (by omega) (by omega) W)
      have HFB := Lib.hid (HBAD.out _ hmem)
      have hXl := textI_len T
      obtain ⟨k, ⟨a, b'⟩, n⟩ := T
      simp only at z1 z2 z3 hXl
      have d0 := hc i _ hx 0 (.int .i64 k) rfl
      have d1 := hc i _ hx 1 (.string ⟨a.toArray⟩) rfl
      have d2 := hc i _ hx 2 (.string ⟨b'.toArray⟩) rfl
      have d3 := hc i _ hx 3 (.string ⟨n.toArray⟩) rfl
      rw [Nat.add_zero] at d0
      have HC0 := Lib.hid (fun W (hb : Below w.heap.size w W) => show W.cell? ⟨b, o + i * 4, none⟩ = some (.int .i64 k) from by
        obtain ⟨p2, cap2, he2, h2⟩ := HROW.out.below hb
        obtain ⟨b2, o2, hpb2, hc2⟩ := grow_at h2 hlt
        rw [hpb2] at he2
        injection he2 with e1
        injection e1 with e1
        injection e1 with e1 e3
        subst e1 e3
        exact hc2 i _ hx 0 (.int .i64 k) rfl)
      simp only [tiV, tiC] at HTX
      have HONE := Lib.hid (fun h => textI_one (t := (k, (a, b'), n)) h)
      have HOI := Lib.hid (show okI (k, (a, b'), n) = (!(textI (k, (a, b'), n)).isEmpty && (textI (k, (a, b'), n)).head? != some 35 && !(textI (k, (a, b'), n)).contains 34 && decide (1 ≤ k) && decide (k ≤ 4)) from rfl)
      obtain ⟨X, hX⟩ : ∃ X, textI (k, (a, b'), n) = X := ⟨_, rfl⟩
      rw [hX] at HTX HOI hXl HONE
      have HXX := Lib.hid hX
      obtain ⟨O, hO⟩ : ∃ O, okI (k, (a, b'), n) = O := ⟨_, rfl⟩
      rw [hO] at HFB HOI
      have HOO := Lib.hid hO
      obtain ⟨JJ, hJJ⟩ : ∃ JJ, joinC ((l.take i).map textI) = JJ := ⟨_, rfl⟩
      rw [hJJ] at hjl2
      rw [hJJ]
      have HJJ := Lib.hid hJJ
      clear hc hx hT hmem hX hO hJJ hjl
      go_wp2_with fail
      refine (HTX.out _).mono ?_
      rintro e w3 ⟨rfl, hb3⟩
      have HB3 := Lib.hid (HBW.out.trans (hb3.mono HBW.out.size))
      have c0 := HC0.out _ HB3.out
      clear hb3 d0 d1 d2 d3
      by_cases hX0 : X = []
      · subst hX0
        obtain rfl : O = false := HOI.out
        obtain rfl : R = ([], false) := HFB.out rfl
        clear HOI HFB HONE HFIN
        go_wp2
        go_ret2
        exact ⟨rfl, HB3.out⟩
      · have hk1 := HONE.out hX0
        obtain ⟨x, X', rfl⟩ := List.exists_cons_of_ne_nil hX0
        have hsX : (⟨(x :: X').toArray⟩ : ByteArray).size = X'.length + 1 := rfl
        have hX1 : (⟨(x :: X').toArray⟩ : ByteArray)[0]'(by rw [hsX]; omega) = x := rfl
        by_cases h35 : x = 35
        · subst h35
          obtain rfl : O = false := by rw [HOI.out]; simp
          obtain rfl : R = ([], false) := HFB.out rfl
          clear HOI HFB HONE HFIN
          go_wp2
          go_ret2
          exact ⟨rfl, HB3.out⟩
        · have n35 : ((x.toNat : Int) == 35) = false := (bt_ne h35).1
          have hO2 : O = (!(x :: X').contains 34 && decide (k ≤ 4)) := by
            rw [HOI.out, decide_eq_true hk1]
            have : (some x != some 35) = true := by rw [bne_iff_ne]; intro e; injection e with e; exact h35 e
            simp [this]
          have HO2 := Lib.hid hO2
          clear hO2 HOI HONE h35 hX0
          by_cases h4 : 4 < k
          · have k4d : decide (4 < k) = true := by rw [decide_eq_true_eq]; exact h4
            obtain rfl : O = false := by rw [HO2.out, decide_eq_false (show ¬ k ≤ 4 by omega), Bool.and_false]
            obtain rfl : R = ([], false) := HFB.out rfl
            clear HO2 HFB HFIN
            go_wp2
            go_ret2
            exact ⟨rfl, HB3.out⟩
          · have k4d : decide (4 < k) = false := by rw [decide_eq_false_iff_not]; exact h4
            have hO3 : O = !(x :: X').contains 34 := by rw [HO2.out, decide_eq_true (show k ≤ 4 by omega), Bool.and_true]
            have HO3 := Lib.hid hO3
            have HNOT := Lib.hid (fun i b (h : (x :: X')[i]? = some b) (hb : b = 34) => q34_not h hb)
            have HALL := Lib.hid (show ((x :: X').take (x :: X').length).contains 34 = (x :: X').contains 34 by rw [List.take_length])
            have hxl : (x :: X').length ≤ 4020 := by omega
            clear hO3 HO2
            go_upto_region 10 with (fail)
            generalize hXY : (x :: X') = Y at *
            clear hX1 hsX
            have hYs : (⟨Y.toArray⟩ : ByteArray).size = Y.length := rfl
            go_wp2_with fail
            go_loopg [7] Y.length (fun g v7 W => Q34Rel Y w3 g v7 W)
            case atStart => exact ⟨0, rfl, Nat.zero_le _, rfl, rfl, rfl⟩
            case round =>
              obtain ⟨j, rfl, hj, hg2, rfl, hno⟩ := hrel
              have HG2 := Lib.hid hg2
              have HNO := Lib.hid hno
              clear hg2 hno
              have j0 : (0 : Int) ≤ (j : Int) := by omega
              by_cases hjl : j < Y.length
              · have j1 : (j : Int) < (Y.length : Int) := by omega
                have jw : IntKind.i64.wrap ((j : Int) + 1) = ((j + 1 : Nat) : Int) := by rw [IntKind.wrap_i64]; omega
                have hgt : (⟨Y.toArray⟩ : ByteArray)[j]'(by rw [hYs]; exact hjl) = Y[j] := rfl
                have hg3 := List.getElem?_eq_getElem hjl
                obtain ⟨bb, hbb⟩ : ∃ b, Y[j] = b := ⟨_, rfl⟩
                rw [hbb] at hgt hg3
                by_cases h34 : bb = 34
                · have hC := HNOT.out j bb hg3 h34
                  obtain rfl : O = false := by rw [HO3.out, hC]; rfl
                  obtain rfl : R = ([], false) := HFB.out rfl
                  have q34 : ((bb.toNat : Int) == 34) = true := by rw [h34]; rfl
                  clear hC hg3 hbb h34 HALL HNOT HO3 HFB HFIN hXY
                  go_wp2
                  go_ret2
                  exact ⟨rfl, HB3.out⟩
                · have q34 : ((bb.toNat : Int) == 34) = false := (bt_ne h34).1
                  have HN2 := Lib.hid (q34_step hg3 h34 HNO.out)
                  clear hg3 hbb h34
                  go_wp2_with fail
                  go_roundg (Y.length - (j + 1))
                  case rel => exact ⟨j + 1, by go_num, by omega, rfl, rfl, HN2.out⟩
                  case measure => have := HG2.out; omega
              · obtain rfl : j = Y.length := by omega
                have j1 : ¬ (Y.length : Int) < (Y.length : Int) := by omega
                have hC : Y.contains 34 = false := HALL.out.symm.trans HNO.out
                obtain rfl : O = true := by rw [HO3.out, hC]; rfl
                have HOKN := Lib.hid (show ∀ t ∈ l.take (i + 1), okI t = true from fun t ht => by
                  rw [HTK.out] at ht
                  rcases List.mem_append.1 ht with ht | ht
                  · exact HOK.out t ht
                  · obtain rfl := List.mem_singleton.1 ht
                    exact HOO.out)
                clear hC HALL HNOT HO3 HFB HNO
                by_cases hi0 : i = 0
                · have hi0i : ¬ (0 : Int) < (i : Int) := by omega
                  have hi0d : decide ((0 : Int) < (i : Int)) = false := by rw [decide_eq_false_iff_not]; exact hi0i
                  obtain rfl : JJ = [] := by rw [← HJJ.out, hi0]; rfl
                  have HJN := Lib.hid (show joinC ((l.take (i + 1)).map textI) = Y from by rw [HTK.out, hi0, List.map_append, List.map_cons, List.map_nil, HXX.out]; rfl)
                  have hz : ∀ W, (Op.stringOp .add (⟨#[]⟩ : ByteArray) ⟨Y.toArray⟩).run Tryz.prog W = .ok (.string ⟨Y.toArray⟩) W := fun W => run_string_add_lists W [] Y (by decide) (by omega)
                  have HI0 := Lib.hid hi0
                  clear hi0
                  go_wp2_with fail
                  go_roundg (l.length - (i + 1))
                  case rel => exact ⟨i + 1, by go_num, by rw [HJN.out], by omega, rfl, HOKN.out, HB3.out⟩
                  case measure => have := HG.out; omega
                · have hi0i : (0 : Int) < (i : Int) := by omega
                  have hi0d : decide ((0 : Int) < (i : Int)) = true := by rw [decide_eq_true_eq]; exact hi0i
                  have HJN := Lib.hid (show joinC ((l.take (i + 1)).map textI) = (JJ ++ [44, 32]) ++ Y from by
                    rw [HTK.out, List.map_append, List.map_cons, List.map_nil, HXX.out, joinC_snoc _ _ (by
                      intro e
                      have := congrArg List.length e
                      rw [List.length_map, List.length_take, List.length_nil] at this
                      omega), HJJ.out])
                  have hz1 : ∀ W, (Op.stringOp .add (⟨JJ.toArray⟩ : ByteArray) ⟨#[44, 32]⟩).run Tryz.prog W = .ok (.string ⟨(JJ ++ [44, 32]).toArray⟩) W := fun W => run_string_add_lists W JJ [44, 32] (by omega) (by decide)
                  have hz2 : ∀ W, (Op.stringOp .add (⟨(JJ ++ [44, 32]).toArray⟩ : ByteArray) ⟨Y.toArray⟩).run Tryz.prog W = .ok (.string ⟨((JJ ++ [44, 32]) ++ Y).toArray⟩) W := fun W => run_string_add_lists W (JJ ++ [44, 32]) Y (by rw [List.length_append]; simp; omega) (by omega)
                  obtain ⟨J1, hJ1⟩ : ∃ J1 : ByteArray, ⟨(JJ ++ [44, 32]).toArray⟩ = J1 := ⟨_, rfl⟩
                  obtain ⟨J2, hJ2⟩ : ∃ J2 : ByteArray, ⟨((JJ ++ [44, 32]) ++ Y).toArray⟩ = J2 := ⟨_, rfl⟩
                  rw [hJ1] at hz1 hz2
                  rw [hJ2] at hz2
                  have HJ2 := Lib.hid hJ2
                  clear hi0 hJ1 hJ2
                  go_wp2_with fail
                  go_roundg (l.length - (i + 1))
                  case rel => exact ⟨i + 1, by go_num, by rw [HJN.out, HJ2.out], by omega, rfl, HOKN.out, HB3.out⟩
                  case measure => have := HG.out; omega
    · obtain rfl : i = l.length := by omega
      have i1 : ¬ (l.length : Int) < (l.length : Int) := by omega
      have hall : l.all okI = true := by
        have := HOK.out
        rw [List.take_length] at this
        rw [List.all_eq_true]
        exact this
      have hF := HFIN.out
      rw [if_pos ⟨hall, HNE.out, hl16⟩] at hF
      rw [List.take_length] at hjl2
      rw [List.take_length]
      obtain ⟨J, hJ⟩ : ∃ J, joinC (l.map textI) = J := ⟨_, rfl⟩
      rw [hJ] at hF hjl2
      rw [hJ]
      have hz : ∀ W, (Op.stringOp .add (⟨J.toArray⟩ : ByteArray) ⟨#[10]⟩).run Tryz.prog W = .ok (.string ⟨(J ++ [10]).toArray⟩) W := fun W => run_string_add_lists W J [10] (by omega) (by decide)
      have HF := Lib.hid hF
      clear hall hF hJ hjl HFIN HBAD
      go_wp2
      go_ret2
      exact ⟨by rw [HF.out]; rfl, HBW.out⟩
end Go.Proofs.YtkoncmmbdlnmfaaGreatDoor

/- The document's Parse of a .forward (package 16): what it hands back. -/
namespace Go.Proofs.YtkoncmmbdlnmfaaGreatDoor
open Go.RowKit Go.Lib
set_option linter.unusedSimpArgs false
set_option linter.unusedVariables false
set_option linter.unnecessarySimpa false
set_option maxRecDepth 100000

/-- all that the entries tell, whatever their number. -/
def rGo (user : List UInt8) : List (List UInt8) → Nat → List Tg → Option (Nat × List Tg)
  | [], many, out => some (many, out)
  | key :: r, many, out => match saidL key with
    | none => none
    | some l => rGo user r (many + l.length) (addAll user out l)
theorem rGo_step (user key : List UInt8) (r : List (List UInt8)) (many : Nat) (out : List Tg) : rGo user (key :: r) many out = match saidL key with
    | none => none
    | some l => rGo user r (many + l.length) (addAll user out l) := rfl
theorem rGo_ge (user : List UInt8) : ∀ (ks : List (List UInt8)) (m : Nat) (out : List Tg) (x : Nat × List Tg), rGo user ks m out = some x → m ≤ x.1
  | [], m, out, x, h => by injection h with h; rw [← h]; exact Nat.le_refl _
  | k :: ks, m, out, x, h => by
    rw [rGo_step] at h
    split at h
    · cases h
    · rename_i l hl
      have := rGo_ge user ks _ _ x h
      omega
theorem fwd_rGo (user : List UInt8) : ∀ (ks : List (List UInt8)) (m : Nat) (out : List Tg), m ≤ 16 → fwdGo user ks m out = match rGo user ks m out with
    | none => none
    | some x => if 16 < x.1 then none else some x.2
  | [], m, out, hm => by
    show some out = if 16 < m then none else some out
    rw [if_neg (by omega)]
  | k :: ks, m, out, hm => by
    rw [fwd_step, rGo_step]
    cases hs : saidL k with
    | none => rfl
    | some l =>
      simp only []
      by_cases h16 : 16 < m + l.length
      · rw [if_pos h16]
        cases hr : rGo user ks (m + l.length) (addAll user out l) with
        | none => rfl
        | some x =>
          have := rGo_ge user ks _ _ x hr
          simp only []
          rw [if_pos (by omega)]
      · rw [if_neg h16]
        exact fwd_rGo user ks _ _ (by omega)
def F1Rel (fs : List (Nat × Nat)) (w : World) (g : Nat) (v8 : Value) (W : World) : Prop :=
  ∃ i : Nat, v8 = .int .i64 (i : Int) ∧ i ≤ fs.length ∧ g = fs.length - i ∧ W = w ∧ ((fs.take i).any fun f => f.2 != 9) = false
def F2Rel (us : List UInt8) (es : List (Nat × List UInt8)) (RR : Option (Nat × List Tg)) (w3 : World) (g : Nat) (v9 v10 v11 : Value) (W : World) : Prop :=
  ∃ (i many : Nat) (out : List Tg), v11 = .int .i64 (i : Int) ∧ v10 = .int .i64 (many : Int) ∧ i ≤ es.length ∧ g = es.length - i ∧ rGo us ((es.map (·.2)).drop i) many out = RR ∧ W.ownsRow w3.heap.size 102 4 v9 out.length ((out.map up).flatMap tiC) ∧
    Below w3.heap.size w3 W ∧ out.length ≤ many ∧ many ≤ 16 * i ∧ (0 < many → out ≠ [])
theorem Row.grown {w W : World} {row : Option Nat} {v : Value} {xs : List Value} (h : Row w v xs) (hg : w.grownBy W row) (hne : ∀ g, v.ownBlock = some g → some g ≠ row) : Row W v xs := by
  obtain ⟨p, cap, hv, h⟩ := h
  subst hv
  refine ⟨p, cap, rfl, ?_⟩
  rcases h with h | ⟨b, o, hp, hlt, h⟩
  · exact .inl h
  · subst hp
    exact .inr ⟨b, o, rfl, Nat.lt_of_lt_of_le hlt hg.size, fun i hi => (World.cell?_of_block (w := w) (hg.block b hlt (hne b rfl))).trans (h i hi)⟩
def F3Rel (us : List UInt8) (ws : List (List UInt8)) (out : List Tg) (many : Nat) (w3 : World) (vw : Value) (g : Nat) (v9 v10 v14 : Value) (W : World) : Prop :=
  ∃ (j : Nat) (ts : List Tg), v14 = .int .i64 (j : Int) ∧ v10 = .int .i64 ((many + j : Nat) : Int) ∧ j ≤ ws.length ∧ g = ws.length - j ∧ targsL (ws.take j) = some ts ∧ ts.length = j ∧ W.ownsRow w3.heap.size 102 4 v9 (addAll us out ts).length (((addAll us out ts).map up).flatMap tiC) ∧ Below w3.heap.size w3 W ∧ Row W vw (ws.map strV) ∧ (∀ g, v9.ownBlock = some g → vw.ownBlock ≠ some g)
/-- behind the name of the user's own. -/
structure Cut22 (w3 : World) (B : Nat) (A : List Tg) (T : Tg) (v9 vw : Value) (xs : List Value) (W : World) : Prop where
  lo : Below w3.heap.size w3 W
  o : W.ownsRow w3.heap.size 102 4 v9 A.length ((A.map up).flatMap tiC)
  r : Row W vw xs
  c : Four4 B (.int .i64 (T.1 : Int)) (.string ⟨T.2.1.1.toArray⟩) (.string ⟨T.2.1.2.toArray⟩) (.string ⟨T.2.2.toArray⟩) W
def F4Rel (A : List Tg) (T : Tg) (w : World) (g : Nat) (v17 v18 : Value) (W : World) : Prop :=
  ∃ n : Nat, v18 = .int .i64 (n : Int) ∧ v17 = .bool ((A.take n).contains T) ∧ n ≤ A.length ∧ g = A.length - n ∧ Below w.heap.size w W
theorem contains_on {A : List Tg} {n : Nat} {Y T : Tg} (h : A[n]? = some Y) : (A.take (n + 1)).contains T = ((A.take n).contains T || (T == Y)) := by
  rw [List.take_add_one, h]
  have : (T == Y) = (T == Y) := rfl
  rw [List.contains_append]
  congr 1
  show (T == Y || false) = _
  rw [Bool.or_false]
/-- the target as it is counted. -/
def Cut21 (T : Tg) (B : Nat) (wx : World) (W : World) : Prop := Below wx.heap.size wx W ∧ Four4 B (.int .i64 (T.1 : Int)) (.string ⟨T.2.1.1.toArray⟩) (.string ⟨T.2.1.2.toArray⟩) (.string ⟨T.2.2.toArray⟩) W
structure Read21 (B : Nat) (k : Int) (a b n : List UInt8) (wx W : World) : Prop where
  lo : Below wx.heap.size wx W
  c : Four4 B (.int .i64 k) (.string ⟨a.toArray⟩) (.string ⟨b.toArray⟩) (.string ⟨n.toArray⟩) W
theorem Read21.call {B : Nat} {k : Int} {a b n : List UInt8} {wx w W : World} (h : Read21 B k a b n wx w) (hb : Below w.heap.size w W) : Read21 B k a b n wx W := ⟨h.lo.trans (hb.mono h.lo.size), h.c.below hb⟩
set_option maxHeartbeats 64000000 in
theorem Parse16 (us s : ByteArray) (hu : us.size ≤ 100000) (hs : s.size ≤ 8192) (w : World) :
    Calls Tryz.prog 16 #[.string us, .string s] w fun e w' => ∃ v, e = .returned (.tuple #[v, .bool (!(fwdL us.data.toList s.data.toList).isEmpty)]) ∧ TRow w' v (fwdL us.data.toList s.data.toList) ∧ Below w.heap.size w w' := by
  have HLN := Lib.hid (Parse13 s hs w)
  have hlf := lines_facts (s := s.data.toList) (by rw [list_len]; exact hs)
  have hF : fwdL us.data.toList s.data.toList = if ((linesL s.data.toList).2.any fun f => f.2 != 9) = true then [] else match fwdGo us.data.toList ((linesL s.data.toList).1.map (·.2)) 0 [] with | none => [] | some out => out := rfl
  generalize fwdL us.data.toList s.data.toList = F at hF ⊢
  generalize linesL s.data.toList = LL at HLN hlf hF
  obtain ⟨es, fs⟩ := LL
  simp only at HLN hlf hF
  obtain ⟨hes, hel, hfl⟩ := hlf
  rw [fwd_rGo _ _ _ _ (Nat.zero_le _)] at hF
  obtain ⟨RR, hRR⟩ : ∃ RR, rGo us.data.toList (es.map (·.2)) 0 [] = RR := ⟨_, rfl⟩
  rw [hRR] at hF
  have HF := Lib.hid hF
  have HRR := Lib.hid hRR
  have HES := Lib.hid hes
  have HLO := Lib.hid (fun W => Lower_ref us (by omega) W)
  obtain ⟨ub, hub⟩ : ∃ ub, us.data.toList = ub := ⟨_, rfl⟩
  rw [hub] at HRR HLO
  obtain ⟨US, hUS⟩ : ∃ US, us = US := ⟨_, rfl⟩
  rw [hUS] at HLO ⊢
  clear hF hRR hes hub hUS
  go_enter Tryz.func16, Tryz.ntmps16
  go_wp2_with fail
  refine HLN.out.mono ?_
  rintro e w3 ⟨v6, v7, rfl, hr6, hr7, hb3⟩
  have HR6 := Lib.hid hr6
  have HR7 := Lib.hid hr7
  have HB3 := Lib.hid hb3
  obtain ⟨p6, c6, rfl, -⟩ := hr6
  obtain ⟨p7, c7, rfl, -⟩ := hr7
  clear hb3 HLN
  go_wp2_with fail
  go_loopg [8] fs.length (fun g v8 W => F1Rel fs w3 g v8 W)
  case atStart => exact ⟨0, rfl, Nat.zero_le _, rfl, rfl, rfl⟩
  case round =>
    obtain ⟨i, rfl, hi, hg, hWw, hno⟩ := hrel
    have hWs := hWw.symm
    clear hWw
    subst hWs
    have HG := Lib.hid hg
    have HNO := Lib.hid hno
    clear hg hno
    have i0 : (0 : Int) ≤ (i : Int) := by omega
    by_cases hlt : i < fs.length
    · have i1 : (i : Int) < (fs.length : Int) := by omega
      have iw : IntKind.i64.wrap ((i : Int) + 1) = ((i + 1 : Nat) : Int) := by rw [IntKind.wrap_i64]; omega
      have hx := List.getElem?_eq_getElem hlt
      obtain ⟨⟨xl, xc⟩, hX⟩ : ∃ X, fs[i] = X := ⟨_, rfl⟩
      rw [hX] at hx
      obtain ⟨p', cap', he, h⟩ := HR7.out
      obtain rfl : c7 = cap' := by injection he
      obtain rfl : p7 = p' := by injection he
      obtain ⟨b, o, hpb, hc⟩ := grow_at h hlt
      subst hpb
      have c1 := hc i _ hx 1 (.int .i64 (xc : Int)) rfl
      clear he h hc
      by_cases h9 : xc = 9
      · have q9 : ((xc : Int) != 9) = false := by rw [h9]; rfl
        have HN2 := Lib.hid (show ((fs.take (i + 1)).any fun f => f.2 != 9) = false from by
          rw [List.take_add_one, hx]
          simp only [List.any_append, HNO.out, Option.toList_some, List.any_cons, List.any_nil, Bool.or_false, Bool.false_or]
          rw [h9]; rfl)
        clear hx hX h9
        go_wp2_with fail
        go_roundg (fs.length - (i + 1))
        case rel => exact ⟨i + 1, by go_num, by omega, rfl, rfl, HN2.out⟩
        case measure => have := HG.out; omega
      · have q9 : ((xc : Int) != 9) = true := by rw [bne_iff_ne]; omega
        have hFe : F = [] := by
          rw [HF.out, if_pos]
          rw [List.any_eq_true]
          exact ⟨(xl, xc), List.mem_of_getElem? hx, by simpa using h9⟩
        subst hFe
        clear hx hX h9 HF
        go_wp2
        go_ret2
        exact ⟨_, rfl, ⟨none, 0, rfl, .inl rfl⟩, HB3.out⟩
    · obtain rfl : i = fs.length := by omega
      have i1 : ¬ (fs.length : Int) < (fs.length : Int) := by omega
      have hF := HF.out
      rw [if_neg (by have := HNO.out; rw [List.take_length] at this; rw [this]; simp)] at hF
      have HF2 := Lib.hid hF
      clear hF HF HNO HG
      go_wp2_with fail
      go_loopg [9, 10, 11] es.length (fun g v9 v10 v11 W => F2Rel ub es RR w3 g v9 v10 v11 W)
      case atStart => exact ⟨0, 0, [], rfl, rfl, Nat.zero_le _, rfl, HRR.out, World.ownsRow_nil _ _ _ _, Below.refl _ _, Nat.le_refl _, Nat.zero_le _, fun h => absurd h (Nat.lt_irrefl _)⟩
      case round =>
        obtain ⟨i, many, out, rfl, rfl, hi, hg, hgo, hown, hb, hom, hmi, hne⟩ := hrel
        have HG := Lib.hid hg
        have HOW := Lib.hid hown
        have HBW := Lib.hid hb
        have HNE := Lib.hid hne
        have i0 : (0 : Int) ≤ (i : Int) := by omega
        have m0 : (0 : Int) ≤ (many : Int) := by omega
        by_cases hlt : i < es.length
        · have i1 : (i : Int) < (es.length : Int) := by omega
          have iw : IntKind.i64.wrap ((i : Int) + 1) = ((i + 1 : Nat) : Int) := by rw [IntKind.wrap_i64]; omega
          have hx := List.getElem?_eq_getElem hlt
          obtain ⟨X, hX⟩ : ∃ X, es[i] = X := ⟨_, rfl⟩
          rw [hX] at hx
          have hXf := HES.out X (by rw [← hX]; exact List.getElem_mem hlt)
          rw [List.drop_eq_getElem_cons (by rw [List.length_map]; exact hlt), List.getElem_map, hX, rGo_step] at hgo
          obtain ⟨p', cap', he, h⟩ := HR6.out.below HBW.out
          obtain rfl : c6 = cap' := by injection he
          obtain rfl : p6 = p' := by injection he
          obtain ⟨b, o, hpb, hc⟩ := grow_at h hlt
          subst hpb
          obtain ⟨ln, key⟩ := X
          have c1 := hc i _ hx 1 (.string ⟨key.toArray⟩) rfl
          simp only at hXf hgo
          obtain ⟨hpk, hqk, hlk⟩ := hXf
          have HSD := Lib.hid (Values13n ⟨key.toArray⟩ (by show key.length ≤ _; omega) (fun b hb e => by
            subst e
            rw [List.contains_eq_mem] at hqk
            simp at hqk
            exact hqk hb) hpk wr)
          rw [show (⟨key.toArray⟩ : ByteArray).data.toList = key from rfl] at HSD
          have hvl := vals_len (s := key)
          rw [show saidL key = match valsL key with | none => none | some ws => targsL ws from rfl] at hgo
          generalize valsL key = V at HSD hvl hgo
          have HGO := Lib.hid hgo
          clear he h hc hx hX hpk hqk hgo hg hown hb hne
          cases V with
          | none =>
            obtain rfl : RR = none := HGO.out.symm
            obtain rfl : F = [] := HF2.out
            clear HGO HF2 HRR
            go_wp2_with fail
            refine HSD.out.mono ?_
            rintro e w5 ⟨⟨c, hc, rfl⟩, hb5, -⟩
            have hc0 : ((c : Int) != 0) = true := by rw [bne_iff_ne]; omega
            have HBF := Lib.hid (HB3.out.trans ((HBW.out.trans (hb5.mono HBW.out.size)).mono HB3.out.size))
            clear hc hb5
            go_wp2
            go_ret2
            exact ⟨_, rfl, ⟨none, 0, rfl, .inl rfl⟩, HBF.out⟩
          | some ws =>
            have HVL := Lib.hid (hvl ws rfl)
            clear hvl
            go_wp2_with fail
            refine HSD.out.mono ?_
            rintro e w5 ⟨⟨vw, rfl, hrow⟩, hb5, hfr⟩
            have HROW := Lib.hid hrow
            have HFR := Lib.hid (hfr _ _ rfl)
            have HB5 := Lib.hid hb5
            have hwl := HVL.out.1
            obtain ⟨pw, cw, rfl, -⟩ := hrow
            have hrow := HROW.out
            have hfr2 := HFR.out
            rw [List.length_map] at hrow hfr2 ⊢
            have HROW := Lib.hid hrow
            have HFR := Lib.hid hfr2
            clear hrow hfr hfr2 hb5
            go_wp2_with fail
            go_loopg [9, 10, 14] ws.length (fun g v9 v10 v14 W => F3Rel ub ws out many w3 (.slice pw ws.length cw) g v9 v10 v14 W)
            case atStart => exact ⟨0, [], rfl, rfl, Nat.zero_le _, rfl, rfl, rfl, own_low HOW.out HB5.out, HBW.out.trans (HB5.out.mono HBW.out.size), HROW.out, fun g e1 e2 => by have h1 := own_lt' HOW.out g e1; have h2 := HFR.out g e2; omega⟩
            case round =>
              obtain ⟨j, ts, rfl, rfl, hj, hg, htl, htj, hown, hb, hrw, hsep⟩ := hrel
              obtain ⟨A, hA⟩ : ∃ A, addAll ub out ts = A := ⟨_, rfl⟩
              rw [hA] at hown
              have hAl : A.length ≤ out.length + j := by rw [← hA, ← htj]; exact addAll_len ub ts out
              have HA := Lib.hid hA
              have HG3 := Lib.hid hg
              have HTL := Lib.hid htl
              have HTJ := Lib.hid htj
              have HOJ := Lib.hid hown
              have HBJ := Lib.hid hb
              have HRW := Lib.hid hrw
              have HSEP := Lib.hid hsep
              clear hA hg htl htj hown hb hrw hsep
              by_cases hlj : j < ws.length
              · have j0 : (0 : Int) ≤ (j : Int) := by omega
                have j1 : (j : Int) < (ws.length : Int) := by omega
                have jw : IntKind.i64.wrap ((j : Int) + 1) = ((j + 1 : Nat) : Int) := by rw [IntKind.wrap_i64]; omega
                have mw : IntKind.i64.wrap (((many + j : Nat) : Int) + 1) = ((many + (j + 1) : Nat) : Int) := by rw [IntKind.wrap_i64]; omega
                have hx := List.getElem?_eq_getElem hlj
                obtain ⟨X, hX⟩ : ∃ X, ws[j] = X := ⟨_, rfl⟩
                rw [hX] at hx
                have hXl := HVL.out.2 X (by rw [← hX]; exact List.getElem_mem hlj)
                obtain ⟨p', cap', he, h | ⟨bw, ow, hpb, hbl, hc⟩⟩ := HRW.out
                · exfalso
                  have := congrArg List.length h
                  rw [List.length_map, List.length_nil] at this
                  omega
                obtain rfl : cw = cap' := by injection he
                obtain rfl : pw = p' := by injection he
                subst hpb
                have hci := hc j (by rw [List.length_map]; exact hlj)
                rw [List.getElem_map, hX] at hci
                simp only [strV] at hci
                have HTK := Lib.hid (show ws.take (j + 1) = ws.take j ++ [X] by rw [List.take_add_one, hx]; rfl)
                have HDR := Lib.hid (show ws = ws.take j ++ X :: ws.drop (j + 1) by
                  have := List.take_append_drop j ws
                  rw [List.drop_eq_getElem_cons hlj, hX] at this
                  exact this.symm)
                have HPT := Lib.hid (ParT14 ⟨X.toArray⟩ (by show X.length ≤ _; omega) wr)
                rw [show (⟨X.toArray⟩ : ByteArray).data.toList = X from rfl] at HPT
                have HTF := Lib.hid (fun t => targF_low (s := X) (t := t))
                have HTN := Lib.hid (targ_from (s := X))
                have HTU := Lib.hid (fun t => targF_up (s := X) (t := t))
                have HBLT := Lib.hid hbl
                clear he hc hx hX hbl
                unfold ParR at HPT
                generalize hTX : targF X = TT at HPT HTF HTN HTU
                clear hTX
                go_wp2_with fail
                refine HPT.out.mono ?_
                rintro e w6 ⟨⟨c, rfl, hc⟩, hb6⟩
                have HB6 := Lib.hid (HBJ.out.trans (hb6.mono HBJ.out.size))
                cases TT with
                | none =>
                  have hc0 : ((c : Int) != 0) = true := by
                    rw [bne_iff_ne]
                    intro e
                    have : c = 0 := by omega
                    rw [hc] at this
                    cases this
                  have hgo := HGO.out
                  rw [show targsL ws = none by rw [HDR.out]; exact targs_bad _ _ _ (HTN.out rfl)] at hgo
                  obtain rfl : RR = none := hgo.symm
                  obtain rfl : F = [] := HF2.out
                  have HBF := Lib.hid (HB3.out.trans (HB6.out.mono HB3.out.size))
                  clear hgo hc hb6
                  simp only [Option.getD_none, tgV, tg0]
                  go_wp2
                  go_ret2
                  exact ⟨_, rfl, ⟨none, 0, rfl, .inl rfl⟩, HBF.out.trans ((alloc_below w6 _).mono HBF.out.size)⟩
                | some t =>
                  have h0 : c = 0 := hc.2 rfl
                  subst h0
                  have hlow := HTF.out t rfl
                  have HO6 := Lib.hid (own_low HOJ.out hb6)
                  have HRW6 := Lib.hid (HRW.out.below hb6)
                  clear hc
                  obtain ⟨kk, ⟨a, b'⟩, n⟩ := t
                  simp only [Option.getD_some, tgV]
                  by_cases h4 : kk ≤ 4
                  · have hTL : targL X = some (kk, (a, b'), n) := hlow.2.2 h4
                    have h4i : ¬ (4 : Int) < (kk : Int) := by omega
                    have h4d : decide ((4 : Int) < (kk : Int)) = false := by rw [decide_eq_false_iff_not]; exact h4i
                    have HF6 := Lib.hid (Four4.made w6 (.int .i64 (kk : Int)) (.string ⟨a.toArray⟩) (.string ⟨b'.toArray⟩) (.string ⟨n.toArray⟩) 102)
                    obtain ⟨⟨-, d0, d1, d2, d3⟩, -⟩ := HF6.out
                    have HTX := Lib.hid hTL
                    go_upto_region 21 with (fail)
                    have HOX := Lib.hid (HO6.out.alloc (.cells #[.int .i64 (kk : Int), .string ⟨a.toArray⟩, .string ⟨b'.toArray⟩, .string ⟨n.toArray⟩] 102))
                    have hax := alloc_below w6 (.cells #[.int .i64 (kk : Int), .string ⟨a.toArray⟩, .string ⟨b'.toArray⟩, .string ⟨n.toArray⟩] 102)
                    have HBX := Lib.hid (HB6.out.trans (hax.mono HB6.out.size))
                    have HRX := Lib.hid (HRW6.out.below hax)
                    have HFX := Lib.hid HF6.out
                    have HO9 := Lib.hid (own_lt' HO6.out)
                    have HBW6 := Lib.hid (show bw < w6.heap.size from Nat.lt_of_lt_of_le HBLT.out hb6.size)
                    have hsz := HB6.out.size
                    clear d0 d1 d2 d3 hax hb6 hTL hlow HF6 HO6 HRW6 HPT HTF HTN HTU hci
                    generalize hwx : w6.alloc (.cells #[.int .i64 (kk : Int), .string ⟨a.toArray⟩, .string ⟨b'.toArray⟩, .string ⟨n.toArray⟩] 102) = wx at HOX HBX HRX HFX ⊢
                    obtain ⟨B, hB⟩ : ∃ B, w6.heap.size = B := ⟨_, rfl⟩
                    rw [hB] at HFX HO9 HBW6 hsz ⊢
                    clear hwx hB HB6
                    obtain ⟨lu, hlu⟩ : ∃ lu, lowL ub = lu := ⟨_, rfl⟩
                    have HLX := Lib.hid HLO.out
                    rw [hlu] at HLX
                    obtain ⟨q, hq⟩ : ∃ q : Bool, decide (kk = 2 ∧ n = lu) = q := ⟨_, rfl⟩
                    have HLU := Lib.hid hlu
                    have HQ := Lib.hid hq
                    clear hlu hq
                    go_cut [83] (fun v83 wc => v83 = .bool q ∧ Read21 B (kk : Int) a b' n wx wc)
                    case first =>
                      by_cases hk2 : kk = 2
                      · subst hk2
                        by_cases hn : n = lu
                        · subst hn
                          obtain ⟨SA, hSA⟩ : ∃ SA : ByteArray, ⟨n.toArray⟩ = SA := ⟨_, rfl⟩
                          have HSN := Lib.hid hSA
                          have HSE := Lib.hid (show True from trivial)
                          have HLO := Lib.hid HLX.out
                          rw [hSA] at HLO
                          have HQ2 := Lib.hid (show true = q by rw [← HQ.out]; simp)
                          clear hSA HLX
                          go_wp2_with fail
                          refine wp_region_det (by kernel_rfl) 10 rfl (fun i => [.pointer (some ⟨B, 0, none⟩), .int .i64 2, .bool true, .bool true, .pointer (some ⟨B, 3, none⟩), .string SA, .string US, .string SA, .bool true, .bool true].getD i undef) (fun _ W => Read21 B 2 a b' n wx W) (by kernel_rfl) (by kernel_rfl) ?hR0 ?hop [(0, 74), (1, 75), (2, 76), (3, 77), (4, 78), (5, 79), (6, 80), (7, 81), (8, 82), (9, 83)] (by kernel_rfl) ?hfin
                          case hR0 => exact ⟨drew_below wx, HFX.out.below (drew_below wx)⟩
                          case hop =>
                            refine ⟨⟨⟨⟨⟨⟨⟨⟨⟨⟨True.intro, ?_⟩, ?_⟩, ?_⟩, ?_⟩, ?_⟩, ?_⟩, ?_⟩, ?_⟩, ?_⟩, ?_⟩
                            · refine ⟨_, rfl, by kernel_rfl, fun Lq aq wq hi hH hA hW hR => ?_⟩
                              rw [if_pos (by rfl)]
                              intro Kq hK
                              have e0 := hH.base 15 (.pointer (some ⟨B, 0, none⟩)) (by kernel_rfl) rfl
                              clear hH hA
                              refine step_pure (.pointer (some ⟨B, 0, none⟩)) ?_ (hK.out _ (hR))
                              clear hK
                              (simp only [execOp, Act.eval, e0]; go_simp)
                            · refine ⟨_, rfl, by kernel_rfl, fun Lq aq wq hi hH hA hW hR => ?_⟩
                              rw [if_pos (by rfl)]
                              intro Kq hK
                              have e0 := hH.at 0 74 (.pointer (some ⟨B, 0, none⟩)) (by kernel_rfl) (hA 0 (by kernel_rfl)) rfl
                              clear hH hA
                              have hc := hR.c.c.c0
                              refine step_pure (.int .i64 2) ?_ (hK.out _ hR)
                              clear hK
                              (simp only [execOp, Act.eval, e0]; go_simp)
                            · refine ⟨_, rfl, by kernel_rfl, fun Lq aq wq hi hH hA hW hR => ?_⟩
                              rw [if_pos (by rfl)]
                              intro Kq hK
                              have e0 := hH.at 1 75 (.int .i64 2) (by kernel_rfl) (hA 1 (by kernel_rfl)) rfl
                              clear hH hA
                              refine step_pure (.bool true) ?_ (hK.out _ (hR))
                              clear hK
                              (simp only [execOp, Act.eval, e0]; go_simp)
                            · refine ⟨_, rfl, by kernel_rfl, fun Lq aq wq hi hH hA hW hR => ?_⟩
                              rw [if_pos (by rfl)]
                              intro Kq hK
                              have e0 := hH.at 2 76 (.bool true) (by kernel_rfl) (hA 2 (by kernel_rfl)) rfl
                              clear hH hA
                              refine step_pure (.bool true) ?_ (hK.out _ (hR))
                              clear hK
                              (simp only [execOp, Act.eval, e0]; go_simp)
                            · refine ⟨_, rfl, by kernel_rfl, fun Lq aq wq hi hH hA hW hR => ?_⟩
                              rw [if_pos (by rfl)]
                              intro Kq hK
                              have e0 := hH.base 15 (.pointer (some ⟨B, 0, none⟩)) (by kernel_rfl) rfl
                              clear hH hA
                              refine step_pure (.pointer (some ⟨B, 3, none⟩)) ?_ (hK.out _ (hR))
                              clear hK
                              (simp only [execOp, Act.eval, e0]; go_simp)
                            · refine ⟨_, rfl, by kernel_rfl, fun Lq aq wq hi hH hA hW hR => ?_⟩
                              rw [if_pos (by rfl)]
                              intro Kq hK
                              have e0 := hH.at 4 78 (.pointer (some ⟨B, 3, none⟩)) (by kernel_rfl) (hA 4 (by kernel_rfl)) rfl
                              clear hH hA
                              have hc := hR.c.c.c3
                              rw [HSN.out] at hc
                              refine step_pure (.string SA) ?_ (hK.out _ hR)
                              clear hK
                              (simp only [execOp, Act.eval, e0]; go_simp)
                            · refine ⟨_, rfl, by kernel_rfl, fun Lq aq wq hi hH hA hW hR => ?_⟩
                              rw [if_pos (by rfl)]
                              intro Kq hK
                              have e0 := hH.base 0 (.string US) (by kernel_rfl) rfl
                              clear hH hA
                              refine step_pure (.string US) ?_ (hK.out _ (hR))
                              clear hK
                              (simp only [execOp, Act.eval, e0]; go_simp)
                            · refine ⟨_, rfl, by kernel_rfl, fun Lq aq wq hi hH hA hW hR => ?_⟩
                              rw [if_pos (by rfl)]
                              intro Kq hK
                              have e0 := hH.at 6 80 (.string US) (by kernel_rfl) (hA 6 (by kernel_rfl)) rfl
                              clear hH hA
                              unfold Oper.wp
                              simp only [execOp, Act.eval, e0]
                              go_simp
                              refine (HLO.out _).mono ?_
                              rintro e w' ⟨rfl, hb⟩
                              exact hK.out _ (hR.call hb)
                            · refine ⟨_, rfl, by kernel_rfl, fun Lq aq wq hi hH hA hW hR => ?_⟩
                              rw [if_pos (by rfl)]
                              intro Kq hK
                              have e0 := hH.at 5 79 (.string SA) (by kernel_rfl) (hA 5 (by kernel_rfl)) rfl
                              have e1 := hH.at 7 81 (.string SA) (by kernel_rfl) (hA 7 (by kernel_rfl)) rfl
                              clear hH hA
                              refine step_pure (.bool true) ?_ (hK.out _ hR)
                              clear hK
                              have hse := HSE.out
                              (simp only [execOp, Act.eval, e0, e1]; go_simp)
                            · refine ⟨_, rfl, by kernel_rfl, fun Lq aq wq hi hH hA hW hR => ?_⟩
                              rw [if_pos (by rfl)]
                              intro Kq hK
                              have e0 := hH.at 3 77 (.bool true) (by kernel_rfl) (hA 3 (by kernel_rfl)) rfl
                              have e1 := hH.at 8 82 (.bool true) (by kernel_rfl) (hA 8 (by kernel_rfl)) rfl
                              clear hH hA
                              refine step_pure (.bool true) ?_ (hK.out _ (hR))
                              clear hK
                              (simp only [execOp, Act.eval, e0, e1]; go_simp)
                          case hfin =>
                            intro Lq w7 hall hR
                            have HR7 := Lib.hid hR
                            clear hall hR
                            simp only [List.foldl_cons, List.foldl_nil, List.getD_cons_zero, List.getD_cons_succ, List.setIfInBounds_toArray, List.set_cons_zero, List.set_cons_succ]
                            go_wp2_with fail
                            go_meet
                            case rel => exact ⟨by rw [← HQ2.out], HR7.out⟩
                        · obtain ⟨SA, hSA⟩ : ∃ SA : ByteArray, ⟨n.toArray⟩ = SA := ⟨_, rfl⟩
                          obtain ⟨SL, hSL⟩ : ∃ SL : ByteArray, ⟨lu.toArray⟩ = SL := ⟨_, rfl⟩
                          have HSN := Lib.hid hSA
                          have HSE := Lib.hid (show ¬ SA.toList = SL.toList from by
                            rw [← hSA, ← hSL]
                            simpa using hn)
                          have HLO := Lib.hid HLX.out
                          rw [hSL] at HLO
                          have HQ2 := Lib.hid (show false = q by rw [← HQ.out]; simpa using hn)
                          clear hSA hSL HLX hn
                          go_wp2_with fail
                          refine wp_region_det (by kernel_rfl) 10 rfl (fun i => [.pointer (some ⟨B, 0, none⟩), .int .i64 2, .bool true, .bool true, .pointer (some ⟨B, 3, none⟩), .string SA, .string US, .string SL, .bool false, .bool false].getD i undef) (fun _ W => Read21 B 2 a b' n wx W) (by kernel_rfl) (by kernel_rfl) ?hR0 ?hop [(0, 74), (1, 75), (2, 76), (3, 77), (4, 78), (5, 79), (6, 80), (7, 81), (8, 82), (9, 83)] (by kernel_rfl) ?hfin
                          case hR0 => exact ⟨drew_below wx, HFX.out.below (drew_below wx)⟩
                          case hop =>
                            refine ⟨⟨⟨⟨⟨⟨⟨⟨⟨⟨True.intro, ?_⟩, ?_⟩, ?_⟩, ?_⟩, ?_⟩, ?_⟩, ?_⟩, ?_⟩, ?_⟩, ?_⟩
                            · refine ⟨_, rfl, by kernel_rfl, fun Lq aq wq hi hH hA hW hR => ?_⟩
                              rw [if_pos (by rfl)]
                              intro Kq hK
                              have e0 := hH.base 15 (.pointer (some ⟨B, 0, none⟩)) (by kernel_rfl) rfl
                              clear hH hA
                              refine step_pure (.pointer (some ⟨B, 0, none⟩)) ?_ (hK.out _ (hR))
                              clear hK
                              (simp only [execOp, Act.eval, e0]; go_simp)
                            · refine ⟨_, rfl, by kernel_rfl, fun Lq aq wq hi hH hA hW hR => ?_⟩
                              rw [if_pos (by rfl)]
                              intro Kq hK
                              have e0 := hH.at 0 74 (.pointer (some ⟨B, 0, none⟩)) (by kernel_rfl) (hA 0 (by kernel_rfl)) rfl
                              clear hH hA
                              have hc := hR.c.c.c0
                              refine step_pure (.int .i64 2) ?_ (hK.out _ hR)
                              clear hK
                              (simp only [execOp, Act.eval, e0]; go_simp)
                            · refine ⟨_, rfl, by kernel_rfl, fun Lq aq wq hi hH hA hW hR => ?_⟩
                              rw [if_pos (by rfl)]
                              intro Kq hK
                              have e0 := hH.at 1 75 (.int .i64 2) (by kernel_rfl) (hA 1 (by kernel_rfl)) rfl
                              clear hH hA
                              refine step_pure (.bool true) ?_ (hK.out _ (hR))
                              clear hK
                              (simp only [execOp, Act.eval, e0]; go_simp)
                            · refine ⟨_, rfl, by kernel_rfl, fun Lq aq wq hi hH hA hW hR => ?_⟩
                              rw [if_pos (by rfl)]
                              intro Kq hK
                              have e0 := hH.at 2 76 (.bool true) (by kernel_rfl) (hA 2 (by kernel_rfl)) rfl
                              clear hH hA
                              refine step_pure (.bool true) ?_ (hK.out _ (hR))
                              clear hK
                              (simp only [execOp, Act.eval, e0]; go_simp)
                            · refine ⟨_, rfl, by kernel_rfl, fun Lq aq wq hi hH hA hW hR => ?_⟩
                              rw [if_pos (by rfl)]
                              intro Kq hK
                              have e0 := hH.base 15 (.pointer (some ⟨B, 0, none⟩)) (by kernel_rfl) rfl
                              clear hH hA
                              refine step_pure (.pointer (some ⟨B, 3, none⟩)) ?_ (hK.out _ (hR))
                              clear hK
                              (simp only [execOp, Act.eval, e0]; go_simp)
                            · refine ⟨_, rfl, by kernel_rfl, fun Lq aq wq hi hH hA hW hR => ?_⟩
                              rw [if_pos (by rfl)]
                              intro Kq hK
                              have e0 := hH.at 4 78 (.pointer (some ⟨B, 3, none⟩)) (by kernel_rfl) (hA 4 (by kernel_rfl)) rfl
                              clear hH hA
                              have hc := hR.c.c.c3
                              rw [HSN.out] at hc
                              refine step_pure (.string SA) ?_ (hK.out _ hR)
                              clear hK
                              (simp only [execOp, Act.eval, e0]; go_simp)
                            · refine ⟨_, rfl, by kernel_rfl, fun Lq aq wq hi hH hA hW hR => ?_⟩
                              rw [if_pos (by rfl)]
                              intro Kq hK
                              have e0 := hH.base 0 (.string US) (by kernel_rfl) rfl
                              clear hH hA
                              refine step_pure (.string US) ?_ (hK.out _ (hR))
                              clear hK
                              (simp only [execOp, Act.eval, e0]; go_simp)
                            · refine ⟨_, rfl, by kernel_rfl, fun Lq aq wq hi hH hA hW hR => ?_⟩
                              rw [if_pos (by rfl)]
                              intro Kq hK
                              have e0 := hH.at 6 80 (.string US) (by kernel_rfl) (hA 6 (by kernel_rfl)) rfl
                              clear hH hA
                              unfold Oper.wp
                              simp only [execOp, Act.eval, e0]
                              go_simp
                              refine (HLO.out _).mono ?_
                              rintro e w' ⟨rfl, hb⟩
                              exact hK.out _ (hR.call hb)
                            · refine ⟨_, rfl, by kernel_rfl, fun Lq aq wq hi hH hA hW hR => ?_⟩
                              rw [if_pos (by rfl)]
                              intro Kq hK
                              have e0 := hH.at 5 79 (.string SA) (by kernel_rfl) (hA 5 (by kernel_rfl)) rfl
                              have e1 := hH.at 7 81 (.string SL) (by kernel_rfl) (hA 7 (by kernel_rfl)) rfl
                              clear hH hA
                              refine step_pure (.bool false) ?_ (hK.out _ hR)
                              clear hK
                              have hse := HSE.out
                              (simp only [execOp, Act.eval, e0, e1]; go_simp)
                            · refine ⟨_, rfl, by kernel_rfl, fun Lq aq wq hi hH hA hW hR => ?_⟩
                              rw [if_pos (by rfl)]
                              intro Kq hK
                              have e0 := hH.at 3 77 (.bool true) (by kernel_rfl) (hA 3 (by kernel_rfl)) rfl
                              have e1 := hH.at 8 82 (.bool false) (by kernel_rfl) (hA 8 (by kernel_rfl)) rfl
                              clear hH hA
                              refine step_pure (.bool false) ?_ (hK.out _ (hR))
                              clear hK
                              (simp only [execOp, Act.eval, e0, e1]; go_simp)
                          case hfin =>
                            intro Lq w7 hall hR
                            have HR7 := Lib.hid hR
                            clear hall hR
                            simp only [List.foldl_cons, List.foldl_nil, List.getD_cons_zero, List.getD_cons_succ, List.setIfInBounds_toArray, List.set_cons_zero, List.set_cons_succ]
                            go_wp2_with fail
                            go_meet
                            case rel => exact ⟨by rw [← HQ2.out], HR7.out⟩
                      · have HK2 := Lib.hid (show ((kk : Int) == 2) = false by rw [beq_eq_false_iff_ne]; omega)
                        have HQ2 := Lib.hid (show false = q by rw [← HQ.out]; simpa using fun e => absurd e hk2)
                        clear hk2 HLX
                        go_wp2_with fail
                        refine wp_region_det (by kernel_rfl) 10 rfl (fun i => [.pointer (some ⟨B, 0, none⟩), .int .i64 (kk : Int), .bool false, .bool false, undef, undef, undef, undef, undef, .bool false].getD i undef) (fun _ W => Read21 B (kk : Int) a b' n wx W) (by kernel_rfl) (by kernel_rfl) ?hR0 ?hop [(0, 74), (1, 75), (2, 76), (3, 77), (4, 78), (5, 79), (6, 80), (7, 81), (8, 82), (9, 83)] (by kernel_rfl) ?hfin
                        case hR0 => exact ⟨drew_below wx, HFX.out.below (drew_below wx)⟩
                        case hop =>
                          refine ⟨⟨⟨⟨⟨⟨⟨⟨⟨⟨True.intro, ?_⟩, ?_⟩, ?_⟩, ?_⟩, ?_⟩, ?_⟩, ?_⟩, ?_⟩, ?_⟩, ?_⟩
                          · refine ⟨_, rfl, by kernel_rfl, fun Lq aq wq hi hH hA hW hR => ?_⟩
                            rw [if_pos (by rfl)]
                            intro Kq hK
                            have e0 := hH.base 15 (.pointer (some ⟨B, 0, none⟩)) (by kernel_rfl) rfl
                            clear hH hA
                            refine step_pure (.pointer (some ⟨B, 0, none⟩)) ?_ (hK.out _ (hR))
                            clear hK
                            (simp only [execOp, Act.eval, e0]; go_simp)
                          · refine ⟨_, rfl, by kernel_rfl, fun Lq aq wq hi hH hA hW hR => ?_⟩
                            rw [if_pos (by rfl)]
                            intro Kq hK
                            have e0 := hH.at 0 74 (.pointer (some ⟨B, 0, none⟩)) (by kernel_rfl) (hA 0 (by kernel_rfl)) rfl
                            clear hH hA
                            have hc := hR.c.c.c0
                            refine step_pure (.int .i64 (kk : Int)) ?_ (hK.out _ hR)
                            clear hK
                            (simp only [execOp, Act.eval, e0]; go_simp)
                          · refine ⟨_, rfl, by kernel_rfl, fun Lq aq wq hi hH hA hW hR => ?_⟩
                            rw [if_pos (by rfl)]
                            intro Kq hK
                            have e0 := hH.at 1 75 (.int .i64 (kk : Int)) (by kernel_rfl) (hA 1 (by kernel_rfl)) rfl
                            clear hH hA
                            refine step_pure (.bool false) ?_ (hK.out _ hR)
                            clear hK
                            have hk2 := HK2.out
                            (simp only [execOp, Act.eval, e0]; go_simp)
                          · refine ⟨_, rfl, by kernel_rfl, fun Lq aq wq hi hH hA hW hR => ?_⟩
                            rw [if_pos (by rfl)]
                            intro Kq hK
                            have e0 := hH.at 2 76 (.bool false) (by kernel_rfl) (hA 2 (by kernel_rfl)) rfl
                            clear hH hA
                            refine step_pure (.bool false) ?_ (hK.out _ (hR))
                            clear hK
                            (simp only [execOp, Act.eval, e0]; go_simp)
                          · refine ⟨_, rfl, by kernel_rfl, fun Lq aq wq hi hH hA hW hR => ?_⟩
                            rw [if_neg]
                            · exact ⟨rfl, hR⟩
                            · exact fun h => Bool.false_ne_true h
                          · refine ⟨_, rfl, by kernel_rfl, fun Lq aq wq hi hH hA hW hR => ?_⟩
                            rw [if_neg]
                            · exact ⟨rfl, hR⟩
                            · exact fun h => Bool.false_ne_true h
                          · refine ⟨_, rfl, by kernel_rfl, fun Lq aq wq hi hH hA hW hR => ?_⟩
                            rw [if_neg]
                            · exact ⟨rfl, hR⟩
                            · exact fun h => Bool.false_ne_true h
                          · refine ⟨_, rfl, by kernel_rfl, fun Lq aq wq hi hH hA hW hR => ?_⟩
                            rw [if_neg]
                            · exact ⟨rfl, hR⟩
                            · exact fun h => Bool.false_ne_true h
                          · refine ⟨_, rfl, by kernel_rfl, fun Lq aq wq hi hH hA hW hR => ?_⟩
                            rw [if_neg]
                            · exact ⟨rfl, hR⟩
                            · exact fun h => Bool.false_ne_true h
                          · refine ⟨_, rfl, by kernel_rfl, fun Lq aq wq hi hH hA hW hR => ?_⟩
                            rw [if_pos (by rfl)]
                            intro Kq hK
                            have e0 := hH.at 3 77 (.bool false) (by kernel_rfl) (hA 3 (by kernel_rfl)) rfl
                            have e1 := hH.at 8 82 (undef) (by kernel_rfl) (hA 8 (by kernel_rfl)) rfl
                            clear hH hA
                            refine step_pure (.bool false) ?_ (hK.out _ (hR))
                            clear hK
                            (simp only [execOp, Act.eval, e0, e1]; go_simp)
                        case hfin =>
                          intro Lq w7 hall hR
                          have HR7 := Lib.hid hR
                          clear hall hR
                          simp only [List.foldl_cons, List.foldl_nil, List.getD_cons_zero, List.getD_cons_succ, List.setIfInBounds_toArray, List.set_cons_zero, List.set_cons_succ]
                          go_wp2_with fail
                          go_meet
                          case rel => exact ⟨by rw [← HQ2.out], HR7.out⟩
                    obtain ⟨rfl, hRc⟩ := hcut
                    have HOC := Lib.hid (own_low HOX.out hRc.lo)
                    have HRC := Lib.hid (HRX.out.below hRc.lo)
                    have HBC := Lib.hid (HBX.out.trans (hRc.lo.mono HBX.out.size))
                    have HFC := Lib.hid hRc.c
                    clear hRc HOX HRX HBX HFX HLX
                    go_upto_if 83 with (fail)
                    go_cut [] (fun wc => Cut22 w3 B A (ownT ub (kk, (a, b'), n)) u9 (.slice (some ⟨bw, ow, none⟩) ws.length cw) (ws.map strV) wc)
                    case first =>
                      have hgs := set_grows wc B 0 (.int .i64 3)
                      have HS3 := Lib.hid (show w3.heap.size ≤ B from hsz)
                      cases q with
                      | true =>
                        obtain ⟨rfl, rfl⟩ := of_decide_eq_true HQ.out
                        have HCU := Lib.hid (show Cut22 w3 B A (ownT ub (2, (a, b'), n)) u9 (.slice (some ⟨bw, ow, none⟩) ws.length cw) (ws.map strV) (wc.setCell ⟨B, 0, none⟩ (.int .i64 3)) from by
                          have e : ownT ub (2, (a, b'), n) = (3, (a, b'), n) := by unfold ownT; rw [if_pos ⟨rfl, HLU.out.symm⟩]
                          rw [e]
                          refine ⟨HBC.out.grown hgs HBC.out.size (fun k e => by injection e with e; have := HS3.out; omega), HOC.out.kept hgs ?_, HRC.out.grown hgs (fun g e1 e2 => ?_), HFC.out.put0 _⟩
                          · cases hv : u9.ownBlock with
                            | none => exact .inl rfl
                            | some g => exact .inr (fun e => by injection e with e; have := HO9.out g hv; omega)
                          · simp only [Value.ownBlock, Option.some.injEq] at e1
                            injection e2 with e2
                            have := HBW6.out
                            omega)
                        obtain ⟨⟨-, e0, e1, e2, e3⟩, g0, g1, g2, g3⟩ := HFC.out
                        clear hgs
                        go_wp2_with fail
                        go_meet
                        case rel => exact HCU.out
                      | false =>
                        have HCU := Lib.hid (show Cut22 w3 B A (ownT ub (kk, (a, b'), n)) u9 (.slice (some ⟨bw, ow, none⟩) ws.length cw) (ws.map strV) wc from by
                          have e : ownT ub (kk, (a, b'), n) = (kk, (a, b'), n) := by
                            unfold ownT
                            rw [if_neg]
                            intro e
                            refine absurd ?_ (of_decide_eq_false HQ.out)
                            exact ⟨e.1, e.2.trans HLU.out⟩
                          rw [e]
                          exact ⟨HBC.out, HOC.out, HRC.out, HFC.out⟩)
                        clear hgs
                        go_wp2_with fail
                        go_meet
                        case rel => exact HCU.out
                    clear HBC HOC HRC HFC HQ HLU HO9
                    have HCU := Lib.hid hcut
                    clear hcut
                    have HTN2 := Lib.hid (show targsL (ws.take (j + 1)) = some (ts ++ [(kk, (a, b'), n)]) from by rw [HTK.out]; exact targs_snoc _ _ _ _ HTL.out HTX.out)
                    have HAN := Lib.hid (show addAll ub out (ts ++ [(kk, (a, b'), n)]) = addT ub A (kk, (a, b'), n) from by rw [addAll_snoc, HA.out])
                    have HADD := Lib.hid (fun h => add_new ub (out := A) (t := (kk, (a, b'), n)) h)
                    have HOLD := Lib.hid (fun h => add_old ub (out := A) (t := (kk, (a, b'), n)) h)
                    obtain ⟨T, hT⟩ : ∃ T, ownT ub (kk, (a, b'), n) = T := ⟨_, rfl⟩
                    rw [hT] at HCU HADD HOLD
                    obtain ⟨T0, hT0⟩ : ∃ T0 : Tg, (kk, (a, b'), n) = T0 := ⟨_, rfl⟩
                    rw [hT0] at HTN2 HAN HADD HOLD
                    clear hT hT0 HTX
                    have HGR := Lib.hid (GRow.of (C := tiC) (fun _ => rfl) (show wc.ownsRow w3.heap.size 102 4 u9 (A.map up).length ((A.map up).flatMap tiC) from by rw [List.length_map]; exact HCU.out.o))
                    have hgr := HGR.out
                    obtain ⟨pA, cA, hu9, -⟩ := hgr
                    rw [List.length_map] at hu9
                    subst hu9
                    obtain ⟨tk, ⟨ta, tb⟩, tn⟩ := T
                    have hAl2 : A.length ≤ 1040 := by omega
                    go_wp2_with fail
                    go_loopg [17, 18] A.length (fun g v17 v18 W => F4Rel A (tk, (ta, tb), tn) wc g v17 v18 W)
                    case atStart => exact ⟨0, rfl, by rfl, Nat.zero_le _, rfl, Below.refl _ _⟩
                    case round =>
                      obtain ⟨m, rfl, rfl, hm, hg, hb⟩ := hrel
                      have HGM := Lib.hid hg
                      have HBM := Lib.hid hb
                      clear hg hb
                      by_cases hlm : m < A.length
                      · have k0 : (0 : Int) ≤ (m : Int) := by omega
                        have k1 : (m : Int) < (A.length : Int) := by omega
                        have kw : IntKind.i64.wrap ((m : Int) + 1) = ((m + 1 : Nat) : Int) := by rw [IntKind.wrap_i64]; omega
                        have hx := List.getElem?_eq_getElem hlm
                        obtain ⟨Y, hY⟩ : ∃ Y, A[m] = Y := ⟨_, rfl⟩
                        rw [hY] at hx
                        have hxu : (A.map up)[m]? = some (up Y) := by rw [List.getElem?_map, hx]; rfl
                        have HY := Lib.hid hx
                        obtain ⟨p', cap', he, h⟩ := HGR.out.below HBM.out
                        obtain rfl : cA = cap' := by injection he
                        obtain rfl : pA = p' := by injection he
                        obtain ⟨ob, oo, hpb, hc⟩ := grow_at h (by rw [List.length_map]; exact hlm)
                        subst hpb
                        obtain ⟨yk, ⟨ya, yb⟩, yn⟩ := Y
                        have d0 := hc m _ hxu 0 (.int .i64 (yk : Int)) rfl
                        have d1 := hc m _ hxu 1 (.string ⟨ya.toArray⟩) rfl
                        have d2 := hc m _ hxu 2 (.string ⟨yb.toArray⟩) rfl
                        have d3 := hc m _ hxu 3 (.string ⟨yn.toArray⟩) rfl
                        rw [Nat.add_zero] at d0
                        clear hc hx hxu hY he h
                        obtain ⟨⟨-, e0, e1, e2, e3⟩, -⟩ := HCU.out.c.below HBM.out
                        simp only at e0 e1 e2 e3
                        by_cases q1 : yk = tk
                        · by_cases q2 : ya = ta
                          · by_cases q3 : yb = tb
                            · by_cases q4 : yn = tn
                              · subst q1 q2 q3 q4
                                go_wp2_with fail
                                go_region
                                go_wp2_with fail
                                go_roundg (A.length - (m + 1))
                                case rel => exact ⟨m + 1, by go_num, by rw [contains_on HY.out]; simp, by omega, rfl, HBM.out.trans ((drew_below wr).mono HBM.out.size)⟩
                                case measure => have := HGM.out; omega
                              · have HCN := Lib.hid (show ((yk, (ya, yb), yn) : Tg) ≠ (tk, (ta, tb), tn) from fun e => q4 (by simp only [Prod.mk.injEq] at e; exact e.2.2))
                                subst q1 q2 q3
                                have q4b : (yn == tn) = false := by rw [beq_eq_false_iff_ne]; exact fun e => q4 e
                                have q4c : ¬ yn = tn := by exact fun e => q4 e
                                clear q4
                                go_wp2_with fail
                                go_region
                                go_wp2_with fail
                                go_roundg (A.length - (m + 1))
                                case rel => exact ⟨m + 1, by go_num, by rw [contains_on HY.out, beq_eq_false_iff_ne.2 HCN.out.symm, Bool.or_false], by omega, rfl, HBM.out.trans ((drew_below wr).mono HBM.out.size)⟩
                                case measure => have := HGM.out; omega
                            · have HCN := Lib.hid (show ((yk, (ya, yb), yn) : Tg) ≠ (tk, (ta, tb), tn) from fun e => q3 (by simp only [Prod.mk.injEq] at e; exact e.2.1.2))
                              subst q1 q2
                              have q4b : (yb == tb) = false := by rw [beq_eq_false_iff_ne]; exact fun e => q3 e
                              have q4c : ¬ yb = tb := by exact fun e => q3 e
                              clear q3
                              go_wp2_with fail
                              go_region
                              go_wp2_with fail
                              go_roundg (A.length - (m + 1))
                              case rel => exact ⟨m + 1, by go_num, by rw [contains_on HY.out, beq_eq_false_iff_ne.2 HCN.out.symm, Bool.or_false], by omega, rfl, HBM.out.trans ((drew_below wr).mono HBM.out.size)⟩
                              case measure => have := HGM.out; omega
                          · have HCN := Lib.hid (show ((yk, (ya, yb), yn) : Tg) ≠ (tk, (ta, tb), tn) from fun e => q2 (by simp only [Prod.mk.injEq] at e; exact e.2.1.1))
                            subst q1
                            have q4b : (ya == ta) = false := by rw [beq_eq_false_iff_ne]; exact fun e => q2 e
                            have q4c : ¬ ya = ta := by exact fun e => q2 e
                            clear q2
                            go_wp2_with fail
                            go_region
                            go_wp2_with fail
                            go_roundg (A.length - (m + 1))
                            case rel => exact ⟨m + 1, by go_num, by rw [contains_on HY.out, beq_eq_false_iff_ne.2 HCN.out.symm, Bool.or_false], by omega, rfl, HBM.out.trans ((drew_below wr).mono HBM.out.size)⟩
                            case measure => have := HGM.out; omega
                        · have HCN := Lib.hid (show ((yk, (ya, yb), yn) : Tg) ≠ (tk, (ta, tb), tn) from fun e => q1 (by simp only [Prod.mk.injEq] at e; exact e.1))
                          have q4b : ((yk : Int) == (tk : Int)) = false := by rw [beq_eq_false_iff_ne]; omega
                          have q4c : ¬ (yk : Int) = (tk : Int) := by omega
                          clear q1
                          go_wp2_with fail
                          go_region
                          go_wp2_with fail
                          go_roundg (A.length - (m + 1))
                          case rel => exact ⟨m + 1, by go_num, by rw [contains_on HY.out, beq_eq_false_iff_ne.2 HCN.out.symm, Bool.or_false], by omega, rfl, HBM.out.trans ((drew_below wr).mono HBM.out.size)⟩
                          case measure => have := HGM.out; omega
                      · obtain rfl : m = A.length := by omega
                        have k1 : ¬ (A.length : Int) < (A.length : Int) := by omega
                        rw [List.take_length]
                        obtain ⟨qc, hqc⟩ : ∃ qc, A.contains (tk, (ta, tb), tn) = qc := ⟨_, rfl⟩
                        rw [hqc]
                        have HQC := Lib.hid hqc
                        have HO5 := Lib.hid (own_low HCU.out.o HBM.out)
                        have HR5 := Lib.hid (HCU.out.r.below HBM.out)
                        have HB5x := Lib.hid (HCU.out.lo.trans (HBM.out.mono HCU.out.lo.size))
                        have HS5 := Lib.hid (HB5x.out.size)
                        obtain ⟨⟨-, e0, e1, e2, e3⟩, -⟩ := HCU.out.c.below HBM.out
                        simp only at e0 e1 e2 e3
                        clear hqc HGM
                        cases qc with
                        | true =>
                          go_wp2_with fail
                          go_roundg (ws.length - (j + 1))
                          case rel =>
                            refine ⟨j + 1, ts ++ [T0], by go_num, by go_num, by omega, rfl, HTN2.out, by rw [List.length_append, List.length_singleton, HTJ.out], ?_, HB5x.out, HR5.out, HSEP.out⟩
                            rw [HAN.out, HOLD.out (by have := HQC.out; rw [List.contains_eq_mem, decide_eq_true_eq] at this; exact this)]
                            exact HO5.out
                          case measure => have := HG3.out; omega
                        | false =>
                          go_wp2_with (first | (at_builtin; refine app_gen rfl _ _ 35 102 4 56 (.agg #[.int .i64 0, .string ⟨#[]⟩, .string ⟨#[]⟩, .string ⟨#[]⟩]) Tryz.underlying35 info102 rfl (by decide) (by decide) rfl w3.heap.size _ _ _ rfl (World.ownsRow.alloc (w := wr) HO5.out _) wr.heap.size 1 [.int .i64 (tk : Int), .string ⟨ta.toArray⟩, .string ⟨tb.toArray⟩, .string ⟨tn.toArray⟩] rfl rfl (cells4 _ _ _ _ _ _) (by intro u hu; simp at hu; rcases hu with rfl | rfl | rfl | rfl <;> rfl) (by omega) (by rw [World.size_alloc]; exact Nat.le_succ_of_le HS5.out) ?_; intro g' cap' w8 hown8 hgr8 hat8) | fail)
                          go_roundg (ws.length - (j + 1))
                          case rel =>
                            refine ⟨j + 1, ts ++ [T0], by go_num, by go_num, by omega, rfl, HTN2.out, by rw [List.length_append, List.length_singleton, HTJ.out], ?_, (HB5x.out.alloc HS5.out _).grown hgr8 (by rw [World.size_alloc]; exact Nat.le_succ_of_le HS5.out) (own_ge HO5.out), (HR5.out.below (alloc_below wr _)).grown hgr8 (fun g e1 e2 => HSEP.out g e2.symm e1), ?_⟩
                            · rw [HAN.out, HADD.out (by have := HQC.out; rw [List.contains_eq_mem, decide_eq_false_iff_not] at this; exact this), List.length_append, List.length_singleton, List.map_append, List.map_cons, List.map_nil, flat_snoc]
                              exact hown8
                            · intro g h1 h2
                              simp only [Value.ownBlock, Option.some.injEq] at h1
                              subst h1
                              rcases hat8 with h8 | h8
                              · exact HSEP.out _ h8 h2
                              · rw [World.size_alloc] at h8
                                simp only [Value.ownBlock, Option.some.injEq] at h2
                                have h9 := HCU.out.c.c.lt
                                have h11 := HBW6.out
                                have h10 := HBM.out.size
                                omega
                          case measure => have := HG3.out; omega
                  · have hTL : targL X = none := by
                      cases hh : targL X with
                      | none => rfl
                      | some t' =>
                        have := HTU.out t' hh
                        injection this with this
                        subst this
                        exact absurd (targ_kind hh).2.1 h4
                    have hgo := HGO.out
                    rw [show targsL ws = none by rw [HDR.out]; exact targs_bad _ _ _ hTL] at hgo
                    obtain rfl : RR = none := hgo.symm
                    obtain rfl : F = [] := HF2.out
                    have h4i : (4 : Int) < (kk : Int) := by omega
                    have h4d : decide ((4 : Int) < (kk : Int)) = true := by rw [decide_eq_true_eq]; exact h4i
                    have HBF := Lib.hid (HB3.out.trans (HB6.out.mono HB3.out.size))
                    have HF6 := Lib.hid (Four4.made w6 (.int .i64 (kk : Int)) (.string ⟨a.toArray⟩) (.string ⟨b'.toArray⟩) (.string ⟨n.toArray⟩) 102)
                    obtain ⟨⟨-, d0, d1, d2, d3⟩, -⟩ := HF6.out
                    clear hgo hb6 hTL
                    go_wp2
                    go_ret2
                    exact ⟨_, rfl, ⟨none, 0, rfl, .inl rfl⟩, HBF.out.trans ((alloc_below w6 _).mono HBF.out.size)⟩
              · obtain rfl : j = ws.length := by omega
                have j1 : ¬ (ws.length : Int) < (ws.length : Int) := by omega
                have htl := HTL.out
                rw [List.take_length] at htl
                have hgo := HGO.out
                rw [htl] at hgo
                have htj := HTJ.out
                have HGOF := Lib.hid (show rGo ub ((es.map (·.2)).drop (i + 1)) (many + ws.length) A = RR from by
                  rw [← HA.out, ← htj]
                  exact hgo)
                have HNE2 := Lib.hid (show 0 < many + ws.length → A ≠ [] from fun h => by
                  rw [← HA.out]
                  refine addAll_ne2 ub ts out ?_
                  by_cases hm0 : 0 < many
                  · exact .inl (HNE.out hm0)
                  · right
                    intro e
                    rw [e] at htj
                    simp only [List.length_nil] at htj
                    omega)
                have HOF := Lib.hid HOJ.out
                clear htl hgo
                go_wp2_with fail
                go_roundg (es.length - (i + 1))
                case rel =>
                  exact ⟨i + 1, many + ws.length, A, by go_num, rfl, by omega, rfl, HGOF.out, HOF.out, HBJ.out, by omega, by omega, HNE2.out⟩
                case measure => have := HG.out; omega
        · obtain rfl : i = es.length := by omega
          have i1 : ¬ (es.length : Int) < (es.length : Int) := by omega
          rw [List.drop_eq_nil_of_le (by rw [List.length_map]; exact Nat.le_refl _)] at hgo
          obtain rfl : RR = some (many, out) := hgo.symm
          have hF := HF2.out
          have hr := GRow.of (C := tiC) (fun _ => rfl) (show wr.ownsRow w3.heap.size 102 4 u9 (out.map up).length ((out.map up).flatMap tiC) from by rw [List.length_map]; exact hown)
          have HR := Lib.hid hr
          have HBF := Lib.hid (HB3.out.trans (hb.mono HB3.out.size))
          clear hgo hown hb hr
          by_cases h1 : many < 1
          · have h1i : (many : Int) < 1 := by omega
            have h1d : decide ((many : Int) < 1) = true := by rw [decide_eq_true_eq]; exact h1i
            obtain rfl : out = [] := by
              cases out with
              | nil => rfl
              | cons x r => simp only [List.length_cons] at hom; omega
            obtain rfl : F = [] := by
              rw [hF]
              show (match (if 16 < many then none else some []) with | none => [] | some out => out) = ([] : List Tg)
              rw [if_neg (by omega)]
            clear hF
            go_wp2
            go_ret2
            exact ⟨_, rfl, ⟨none, 0, rfl, .inl rfl⟩, HBF.out⟩
          · have h1i : ¬ (many : Int) < 1 := by omega
            have h1d : decide ((many : Int) < 1) = false := by rw [decide_eq_false_iff_not]; exact h1i
            by_cases h16 : 16 < many
            · have h16i : (16 : Int) < (many : Int) := by omega
              have h16d : decide ((16 : Int) < (many : Int)) = true := by rw [decide_eq_true_eq]; exact h16i
              obtain rfl : F = [] := by
                rw [hF]
                show (match (if 16 < many then none else some out) with | none => [] | some out => out) = ([] : List Tg)
                rw [if_pos h16]
              clear hF
              go_wp2
              go_ret2
              exact ⟨_, rfl, ⟨none, 0, rfl, .inl rfl⟩, HBF.out⟩
            · have h16i : ¬ (16 : Int) < (many : Int) := by omega
              have h16d : decide ((16 : Int) < (many : Int)) = false := by rw [decide_eq_false_iff_not]; exact h16i
              obtain rfl : F = out := by
                rw [hF]
                show (match (if 16 < many then none else some out) with | none => [] | some out => out) = out
                rw [if_neg h16]
              have he : F.isEmpty = false := by rw [List.isEmpty_eq_false_iff]; exact hne (by omega)
              have HE := Lib.hid he
              clear hF
              go_wp2
              go_ret2
              obtain ⟨x, r, rfl⟩ := List.exists_cons_of_ne_nil (List.isEmpty_eq_false_iff.1 HE.out)
              exact ⟨_, rfl, HR.out, HBF.out⟩
end Go.Proofs.YtkoncmmbdlnmfaaGreatDoor

/- ForwardTells: its walk. -/
namespace Go.Proofs.YtkoncmmbdlnmfaaGreatDoor
open Go.RowKit Go.Lib
set_option linter.unusedSimpArgs false
set_option linter.unusedVariables false
set_option linter.unnecessarySimpa false
set_option maxRecDepth 100000

def TCut (L : List TI) (w : World) (v0 v1 v2 : Value) (W : World) : Prop := (∃ S : ByteArray, v0 = .string S ∧ S.size ≤ 80) ∧ (∃ T : ByteArray, v1 = .string T ∧ T.size ≤ 1000) ∧ GRow 4 tiC W v2 L ∧ Below w.heap.size w W
set_option maxHeartbeats 16000000 in
theorem telw_any (s0 t0 : ByteArray) (l : List TI) (v : Value) (w : World) (hs0 : s0.size ≤ 140737488351232) (ht0 : t0.size ≤ 140737488351232) (hrow : GRow 4 tiC w v l) (hEB : Env w ∧ Begs w) :
    Calls Tryz.prog 4 #[.string s0, .string t0, v] w fun e w' => e = .returned (.bool true) ∧ Below w.heap.size w w' := by
  obtain ⟨hE, hB⟩ := hEB
  have HFW := Lib.hid (fun W (h : Below w.heap.size w W) => Few_any l v W (hrow.below h))
  have hLl := few_len l
  have hLk := few_ok l
  generalize fewL l = L at HFW hLl hLk
  have HLK := Lib.hid hLk
  have HE := Lib.hid hE
  have HB := Lib.hid hB
  clear hrow hLk hE hB
  go_enter Tryz.func4, Tryz.ntmps4
  go_upto_region 1 with (fail)
  go_cut [0, 1, 2] (fun v0 v1 v2 wc => TCut L w v0 v1 v2 wc)
  case first =>
    have h0 : (0 : Int) ≤ min (s0.size : Int) 80 := by omega
    have h1 : min (s0.size : Int) 80 ≤ (s0.size : Int) := by omega
    have h2 : (0 : Int) ≤ min (t0.size : Int) 1000 := by omega
    have h3 : min (t0.size : Int) 1000 ≤ (t0.size : Int) := by omega
    have hbd := drew_below w
    go_wp2_with fail
    go_region_held3 (fun _ => True) (trivial)
      (first | ((with_reducible refine (HFW.out _ hbd).mono ?_); rintro e w9 ⟨v9, rfl, hr9, hb9⟩; have hbd9 := hbd.trans (hb9.mono hbd.size); clear hbd hb9; have hbd := hbd9; clear hbd9))
    all_goals (try go_wp2_with fail)
    all_goals go_meet
    all_goals exact ⟨⟨_, rfl, by simp; omega⟩, ⟨_, rfl, by simp; omega⟩, hr9, hbd⟩
  case rest =>
    obtain ⟨⟨S, rfl, hS⟩, ⟨T, rfl, hT⟩, hr, hbw⟩ := hcut
    have HR := Lib.hid hr
    have HE1 := Lib.hid (HE.out.below hbw)
    have HB1 := Lib.hid (HB.out.below hbw)
    have HBW := Lib.hid hbw
    have HP := Lib.hid (Parse_fwd S T (by omega) (by omega) wc HE1.out HB1.out)
    have HP16 := Lib.hid (fun W => Parse16 S T (by omega) (by omega) W)
    obtain ⟨-, -, hl16⟩ := own_law S.data.toList T.data.toList
    generalize fwdL S.data.toList T.data.toList = F at HP HP16 hl16
    have hFl : (F.map up).length ≤ 1000000 := by rw [List.length_map]; omega
    clear hr hbw hs0 ht0
    generalize F.isEmpty = q at HP HP16
    go_wp2_with fail
    refine HP.out.mono ?_
    rintro e w2 ⟨v7, rfl, hr7, -, hb2⟩
    have HB2 := Lib.hid (HBW.out.trans (hb2.mono HBW.out.size))
    have HE2 := Lib.hid (HE1.out.below hb2)
    have HG2 := Lib.hid (HB1.out.below hb2)
    have HR2 := Lib.hid (HR.out.below hb2)
    have H7 := Lib.hid hr7
    clear hr7 hb2
    go_wp2_with fail
    refine (HP16.out _).mono ?_
    rintro e w3 ⟨v9, rfl, hr9, hb3⟩
    have HB3 := Lib.hid (HB2.out.trans (hb3.mono HB2.out.size))
    have HE3 := Lib.hid (HE2.out.below hb3)
    have HG3 := Lib.hid (HG2.out.below hb3)
    have HR3 := Lib.hid (HR2.out.below hb3)
    have H73 := Lib.hid (H7.out.below hb3)
    have H9 := Lib.hid hr9
    have HTX := Lib.hid (Text_fwd L u2 w3 HR3.out (by omega) (fun t ht => by obtain ⟨h1, h2, h3⟩ := HLK.out t ht; exact ⟨by omega, by omega, by omega⟩) HE3.out HG3.out)
    have HTY := Lib.hid (fun v W h => Text16 L v W h (by omega) (fun t ht => by obtain ⟨h1, h2, h3⟩ := HLK.out t ht; exact ⟨by omega, by omega, by omega⟩))
    clear hr9 hb3
    obtain ⟨SX, hSX⟩ : ∃ SX : ByteArray, ⟨(fTx L).1.toArray⟩ = SX := ⟨_, rfl⟩
    obtain ⟨qx, hqx⟩ : ∃ qx : Bool, (fTx L).2 = qx := ⟨_, rfl⟩
    rw [hSX, hqx] at HTX HTY
    clear hSX hqx
    go_wp2_with fail
    refine HTX.out.mono ?_
    rintro e w4 ⟨rfl, hb4⟩
    have HB4 := Lib.hid (HB3.out.trans (hb4.mono HB3.out.size))
    have HE4 := Lib.hid (HE3.out.below hb4)
    have HG4 := Lib.hid (HG3.out.below hb4)
    have H74 := Lib.hid (H73.out.below hb4)
    have H94 := Lib.hid (H9.out.below hb4)
    have HOF := Lib.hid (Of_any L u2 w4 (HR3.out.below hb4) (by omega))
    clear hb4
    go_wp2_with fail
    refine HOF.out.mono ?_
    rintro e w5 ⟨v5, rfl, hr5, hb5⟩
    have HB5 := Lib.hid (HB4.out.trans (hb5.mono HB4.out.size))
    have HE5 := Lib.hid (HE4.out.below hb5)
    have HG5 := Lib.hid (HG4.out.below hb5)
    have H75 := Lib.hid (H74.out.below hb5)
    have H95 := Lib.hid (H94.out.below hb5)
    have HTZ := Lib.hid (HTY.out v5 w5 hr5)
    clear hr5 hb5
    go_wp2_with fail
    refine HTZ.out.mono ?_
    rintro e w6 ⟨rfl, hb6⟩
    have HB6 := Lib.hid (HB5.out.trans (hb6.mono HB5.out.size))
    have HE6 := Lib.hid (HE5.out.below hb6)
    have HG6 := Lib.hid (HG5.out.below hb6)
    have H96 := Lib.hid (H95.out.below hb6)
    have HOG := Lib.hid (Of_any (F.map up) v7 w6 (H75.out.below hb6) hFl)
    clear hb6
    go_wp2_with fail
    refine HOG.out.mono ?_
    rintro e w7 ⟨v8, rfl, hr8, hb7⟩
    have HB7 := Lib.hid (HB6.out.trans (hb7.mono HB6.out.size))
    have HE7 := Lib.hid (HE6.out.below hb7)
    have HG7 := Lib.hid (HG6.out.below hb7)
    have HSM := Lib.hid (Same_any (F.map up) (F.map up) v8 v9 w7 hr8 (H96.out.below hb7) hFl hFl)
    rw [decide_eq_true rfl] at HSM
    clear hr8 hb7
    go_wp2_with fail
    refine HSM.out.mono ?_
    rintro e w8 ⟨rfl, hb8⟩
    have HB8 := Lib.hid (HB7.out.trans (hb8.mono HB7.out.size))
    have HTA := Lib.hid (tells_any w8 (HE7.out.below hb8) (HG7.out.below hb8))
    clear hb8
    go_wp2_with fail
    refine HTA.out.mono ?_
    rintro e w9 ⟨rfl, hb9⟩
    have HB9 := Lib.hid (HB8.out.trans (hb9.mono HB8.out.size))
    clear hb9
    go_wp2
    go_ret
    exact ⟨rfl, HB9.out⟩
end Go.Proofs.YtkoncmmbdlnmfaaGreatDoor
