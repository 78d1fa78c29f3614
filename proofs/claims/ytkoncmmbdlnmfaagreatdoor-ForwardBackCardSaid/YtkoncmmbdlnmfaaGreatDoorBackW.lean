/- ForwardBack: its walk. -/
import Derived.Test.YtkoncmmbdlnmfaaGreatDoorEK5
import Derived.Test.YtkoncmmbdlnmfaaGreatDoorOwnW
namespace Go.Proofs.YtkoncmmbdlnmfaaGreatDoor
open Go.RowKit Go.Lib
set_option linter.unusedSimpArgs false
set_option linter.unusedVariables false
set_option linter.unnecessarySimpa false
set_option maxRecDepth 100000

def BkRel (L : List TI) (w2 : World) (g : Nat) (v5 v25 : Value) (W : World) : Prop :=
  ∃ i : Nat, v25 = .int .i64 (i : Int) ∧ i ≤ L.length ∧ g = L.length - i ∧ W.ownsRow w2.heap.size 28 4 v5 (keepAll 16 (L.take i)).length ((keepAll 16 (L.take i)).flatMap tiC) ∧ Below w2.heap.size w2 W
def WkRel (us : List UInt8) (O : List Tg) (w5 : World) (g : Nat) (v14 v80 : Value) (W : World) : Prop :=
  ∃ i : Nat, v80 = .int .i64 (i : Int) ∧ i ≤ O.length ∧ g = O.length - i ∧ W.ownsRow w5.heap.size 28 4 v14 (addAll us [] (O.take i)).length (((addAll us [] (O.take i)).map up).flatMap tiC) ∧ Below w5.heap.size w5 W
set_option maxHeartbeats 32000000 in
theorem back_any (l : List TI) (v : Value) (us : ByteArray) (w : World) (hrow : GRow 4 tiC w v l) (hus : us.size ≤ 140737488351232) (hEB : Env w ∧ Begs w) :
    Calls Tryz.prog 6 #[v, .string us] w fun e w' => e = .returned (.bool true) ∧ Below w.heap.size w w' := by
  obtain ⟨hE, hB⟩ := hEB
  have h0 : (0 : Int) ≤ min (us.size : Int) 40 := by omega
  have h1 : min (us.size : Int) 40 ≤ (us.size : Int) := by omega
  have hU : (us.extract 0 (min (us.size : Int) 40).toNat).size ≤ 40 := by simp; omega
  have HF := Lib.hid (Few_any l v w hrow)
  have hLl := few_len l
  have hLk := few_ok l
  generalize fewL l = L at HF hLl hLk
  have HLK := Lib.hid hLk
  have HE := Lib.hid hE
  have HB := Lib.hid hB
  clear hrow hLk hE hB
  go_enter Tryz.func6, Tryz.ntmps6
  go_wp2_with fail
  generalize hUe : us.extract 0 (min (us.size : Int) 40).toNat = U at hU ⊢
  clear h0 h1 hUe hus
  refine HF.out.mono ?_
  rintro e w2 ⟨v', rfl, hr, hb2⟩
  have HR := Lib.hid hr
  have HB2 := Lib.hid hb2
  have HE2 := Lib.hid (HE.out.below hb2)
  have HG2 := Lib.hid (HB.out.below hb2)
  obtain ⟨p, cap, rfl, -⟩ := hr
  clear hb2 HF
  go_wp2_with fail
  go_loopg [5, 25] L.length (fun g v5 v25 W => BkRel L w2 g v5 v25 W)
  case atStart => exact ⟨0, rfl, Nat.zero_le _, rfl, World.ownsRow_nil _ _ _ _, Below.refl _ _⟩
  case round =>
    obtain ⟨i, rfl, hi, hg, hown, hb⟩ := hrel
    have HG := Lib.hid hg
    have HO := Lib.hid hown
    have HBW := Lib.hid hb
    clear hg hown hb
    by_cases hlt : i < L.length
    · have hi0 : (0 : Int) ≤ (i : Int) := by omega
      have hi1 : (i : Int) < (L.length : Int) := by omega
      have hwk : IntKind.i64.wrap ((i : Int) + 1) = (i : Int) + 1 := by rw [IntKind.wrap_i64]; omega
      have hx := List.getElem?_eq_getElem hlt
      obtain ⟨T, hT⟩ : ∃ T, L[i] = T := ⟨_, rfl⟩
      rw [hT] at hx
      have hmem : T ∈ L := by rw [← hT]; exact List.getElem_mem hlt
      have hts := HLK.out T hmem
      have hks := keep_at (m := 16) hx
      have hkl := keep_len16 16 (L.take i)
      obtain ⟨O, hO⟩ : ∃ O, keepAll 16 (L.take i) = O := ⟨_, rfl⟩
      rw [hO] at HO hks hkl
      have HKS := Lib.hid hks
      obtain ⟨p', cap', he, h⟩ := HR.out.below HBW.out
      obtain rfl : cap = cap' := by injection he
      obtain rfl : p = p' := by injection he
      obtain ⟨b, o, hpb, hc⟩ := grow_at h hlt
      subst hpb
      clear he h
      obtain ⟨k, ⟨a, b'⟩, n⟩ := T
      have d0 := hc i _ hx 0 (.int .i64 k) rfl
      have d1 := hc i _ hx 1 (.string ⟨a.toArray⟩) rfl
      have d2 := hc i _ hx 2 (.string ⟨b'.toArray⟩) rfl
      have d3 := hc i _ hx 3 (.string ⟨n.toArray⟩) rfl
      rw [Nat.add_zero] at d0
      have HB0 := Lib.hid (alloc_below wr (.cells #[.int .i64 k, .string ⟨a.toArray⟩, .string ⟨b'.toArray⟩, .string ⟨n.toArray⟩] 28))
      have HFF := Lib.hid (Four4.made wr (.int .i64 k) (.string ⟨a.toArray⟩) (.string ⟨b'.toArray⟩) (.string ⟨n.toArray⟩) 28)
      obtain ⟨wy, hwy⟩ : ∃ wy, wr.alloc (.cells #[.int .i64 k, .string ⟨a.toArray⟩, .string ⟨b'.toArray⟩, .string ⟨n.toArray⟩] 28) = wy := ⟨_, rfl⟩
      rw [hwy] at HB0 HFF
      have HBZ0 := Lib.hid (alloc_below wy (.cells #[.int .i64 k, .string ⟨a.toArray⟩, .string ⟨b'.toArray⟩, .string ⟨n.toArray⟩] 28))
      have HLD := Lib.hid (GRow.laid (C := tiC) tiC_len wy [(k, (a, b'), n)] 28 1 #[.int .i64 k, .string ⟨a.toArray⟩, .string ⟨b'.toArray⟩, .string ⟨n.toArray⟩] rfl)
      have HFZ := Lib.hid (HFF.out.below HBZ0.out)
      obtain ⟨wz, hwz⟩ : ∃ wz, wy.alloc (.cells #[.int .i64 k, .string ⟨a.toArray⟩, .string ⟨b'.toArray⟩, .string ⟨n.toArray⟩] 28) = wz := ⟨_, rfl⟩
      rw [hwz] at HBZ0 HLD HFZ
      have HBR := Lib.hid (HB0.out.trans (HBZ0.out.mono HB0.out.size))
      have HBX := Lib.hid (HBW.out.trans (HBR.out.mono HBW.out.size))
      have HTX := Lib.hid (show Calls Tryz.prog 17 #[.slice (some ⟨wy.heap.size, 0, none⟩) 1 1] wz fun e w' => e = .returned (.tuple #[.string ⟨(fTx [(k, (a, b'), n)]).1.toArray⟩, .bool (okI (k, (a, b'), n))]) ∧ Below wz.heap.size wz w' from by
        rw [← fTx_one]
        exact Text_fwd [(k, (a, b'), n)] _ wz HLD.out (by show (1 : Nat) ≤ 100000; omega) (fun t ht => by
          obtain rfl := List.mem_singleton.1 ht
          obtain ⟨q1, q2, q3⟩ := hts
          exact ⟨Nat.le_trans q1 (by decide), Nat.le_trans q2 (by decide), Nat.le_trans q3 (by decide)⟩) (HE2.out.below HBX.out) (HG2.out.below HBX.out))
      generalize (fTx [(k, (a, b'), n)]).1 = X at HTX
      obtain ⟨K, hK⟩ : ∃ K, okI (k, (a, b'), n) = K := ⟨_, rfl⟩
      rw [hK] at HTX
      have HKK := Lib.hid hK
      obtain ⟨⟨-, e0, e1, e2, e3⟩, -⟩ := HFF.out
      obtain ⟨pv, cv, rfl⟩ := own_slice HO.out
      obtain ⟨m, hm⟩ : ∃ m, O.length = m := ⟨_, rfl⟩
      rw [hm] at HO hkl
      have HM := Lib.hid hm
      rw [hm]
      clear hc hx hT hmem hts hks hK hm
      go_wp2_with fail
      refine HTX.out.mono ?_
      rintro e w3 ⟨rfl, hb3⟩
      have HF3 := Lib.hid (HFZ.out.below hb3)
      have HB3 := Lib.hid (HBR.out.trans (hb3.mono HBR.out.size))
      have HO3 := Lib.hid (own_low HO.out HB3.out)
      have HBX3 := Lib.hid (HBW.out.trans (HB3.out.mono HBW.out.size))
      have HS3 := Lib.hid HBX3.out.size
      clear hb3 e0 e1 e2 e3 d0 d1 d2 d3
      obtain ⟨⟨-, e0, e1, e2, e3⟩, -⟩ := HF3.out
      cases K with
      | false =>
        go_wp2_with fail
        go_roundg (L.length - (i + 1))
        case rel =>
          refine ⟨i + 1, by go_num, by omega, rfl, ?_, HBX3.out⟩
          rw [HKS.out]
          have e : keepStep 16 O (k, (a, b'), n) = O := by unfold keepStep; rw [if_neg (by rw [HKK.out]; intro h; exact absurd h.1 (by decide))]
          rw [e, HM.out]
          exact HO3.out
        case measure => have := HG.out; omega
      | true =>
        by_cases h16 : m < 16
        · have h16i : (m : Int) < 16 := by omega
          have h16d : decide ((m : Int) < 16) = true := by rw [decide_eq_true_eq]; exact h16i
          go_wp2_with (first | (at_builtin; refine app_gen rfl _ _ 22 28 4 56 (.agg #[.int .i64 0, .string ⟨#[]⟩, .string ⟨#[]⟩, .string ⟨#[]⟩]) Tryz.underlying22 info28 rfl (by decide) (by decide) rfl w2.heap.size _ _ _ rfl (World.ownsRow.alloc (w := w3) HO3.out _) w3.heap.size 1 [.int .i64 k, .string ⟨a.toArray⟩, .string ⟨b'.toArray⟩, .string ⟨n.toArray⟩] rfl rfl (cells4 _ _ _ _ _ _) (by intro u hu; simp at hu; rcases hu with rfl | rfl | rfl | rfl <;> rfl) (by omega) (by rw [World.size_alloc]; exact Nat.le_succ_of_le HS3.out) ?_; intro g' cap' w6 hown6 hgr6 hat6) | fail)
          go_roundg (L.length - (i + 1))
          case rel =>
            refine ⟨i + 1, by go_num, by omega, rfl, ?_, (HBX3.out.alloc HS3.out _).grown hgr6 (by rw [World.size_alloc]; exact Nat.le_succ_of_le HS3.out) (own_ge HO3.out)⟩
            rw [HKS.out]
            have e : keepStep 16 O (k, (a, b'), n) = O ++ [(k, (a, b'), n)] := by unfold keepStep; rw [if_pos ⟨HKK.out, by have := HM.out; omega⟩]
            rw [e, List.length_append, List.length_singleton, HM.out, flat_snoc]
            exact hown6
          case measure => have := HG.out; omega
        · have h16d : decide ((m : Int) < 16) = false := by rw [decide_eq_false_iff_not]; omega
          have h16i : ¬ (m : Int) < 16 := by omega
          go_wp2_with fail
          go_roundg (L.length - (i + 1))
          case rel =>
            refine ⟨i + 1, by go_num, by omega, rfl, ?_, HBX3.out⟩
            rw [HKS.out]
            have e : keepStep 16 O (k, (a, b'), n) = O := by unfold keepStep; rw [if_neg (fun h => by have := HM.out; omega)]
            rw [e, HM.out]
            exact HO3.out
          case measure => have := HG.out; omega
    · have hik : i = L.length := by omega
      subst hik
      have hge : ¬ (L.length : Int) < (L.length : Int) := by omega
      have hinv := keep_inv 16 FewOk L [] (fun t ht => by cases ht) (Nat.zero_le _) HLK.out
      have hown := HO.out
      rw [List.take_length] at hown
      change (∀ t ∈ keepAll 16 L, okI t = true ∧ FewOk t) ∧ (keepAll 16 L).length ≤ 16 at hinv
      generalize keepAll 16 L = O at hinv hown
      obtain ⟨hok, hO16⟩ := hinv
      have HOK := Lib.hid hok
      have HRO := Lib.hid (GRow.of (C := tiC) tiC_len hown)
      obtain ⟨pv, cv, rfl⟩ := own_slice hown
      have HBW2 := Lib.hid (HB2.out.trans (HBW.out.mono HB2.out.size))
      have HEr := Lib.hid (HE2.out.below HBW.out)
      have HGr := Lib.hid (HG2.out.below HBW.out)
      have HTX := Lib.hid (Text_fwd O _ wr HRO.out (by omega) (fun t ht => by
          obtain ⟨q1, q2, q3⟩ := (HOK.out t ht).2
          exact ⟨Nat.le_trans q1 (by decide), Nat.le_trans q2 (by decide), Nat.le_trans q3 (by decide)⟩) HEr.out HGr.out)
      clear hok hown
      by_cases hO0 : O = []
      · subst hO0
        rw [fTx_nil] at HTX
        go_wp2_with fail
        refine HTX.out.mono ?_
        rintro e w3 ⟨rfl, hb3⟩
        have HE3 := Lib.hid (HEr.out.below hb3)
        have HG3 := Lib.hid (HGr.out.below hb3)
        have HP := Lib.hid (Parse_fwd U ⟨#[]⟩ (by omega) (by decide) w3 HE3.out HG3.out)
        rw [show (⟨#[]⟩ : ByteArray).data.toList = [] from rfl, fwd_nil] at HP
        have HB3 := Lib.hid (HBW2.out.trans (hb3.mono HBW2.out.size))
        clear hb3
        go_wp2_with fail
        refine HP.out.mono ?_
        rintro e w4 ⟨v4, rfl, ⟨p4, c4, rfl, -⟩, -, hb4⟩
        have HB4 := Lib.hid (HB3.out.trans (hb4.mono HB3.out.size))
        have HTA := Lib.hid (tells_any w4 (HE3.out.below hb4) (HG3.out.below hb4))
        clear hb4
        go_wp2_with fail
        refine HTA.out.mono ?_
        rintro e w5 ⟨rfl, hb5⟩
        go_wp2
        go_ret
        exact ⟨rfl, HB4.out.trans (hb5.mono HB4.out.size)⟩
      · obtain ⟨s, O', hOO, htx, hsl, hfw, hct⟩ := back_fact HOK.out hO16 hO0
        rw [htx] at HTX
        have hOl : O.length = O'.length := by rw [hOO, List.length_map]
        have hpos : 0 < O'.length := by
          rw [← hOl]
          exact List.length_pos_iff.2 hO0
        have hposi : (0 : Int) < (O'.length : Int) := by omega
        have hposd : decide ((0 : Int) < (O'.length : Int)) = true := by rw [decide_eq_true_eq]; exact hposi
        have hO16' : O'.length ≤ 16 := by omega
        subst hOO
        rw [List.length_map] at *
        clear HOK htx hO0 hO16 hOl
        go_wp2_with fail
        refine HTX.out.mono ?_
        rintro e w3 ⟨rfl, hb3⟩
        have HE3 := Lib.hid (HEr.out.below hb3)
        have HG3 := Lib.hid (HGr.out.below hb3)
        have HRO3 := Lib.hid (HRO.out.below hb3)
        have HP := Lib.hid (Parse_fwd U ⟨s.toArray⟩ (by omega) (by show s.length ≤ 8192; omega) w3 HE3.out HG3.out)
        obtain ⟨ub, hub⟩ : ∃ ub, U.data.toList = ub := ⟨_, rfl⟩
        rw [show (⟨s.toArray⟩ : ByteArray).data.toList = s from rfl, hfw, hub] at HP
        have hne := addAll_ne2 ub O' [] (.inr (List.length_pos_iff.1 hpos))
        have hie : (addAll ub [] O').isEmpty = false := by rw [List.isEmpty_eq_false_iff]; exact hne
        rw [hie] at HP
        have HB3 := Lib.hid (HBW2.out.trans (hb3.mono HBW2.out.size))
        have HCT := Lib.hid (fun W => Tryz.strings_Count_one ⟨s.toArray⟩ 10 W)
        rw [show (⟨s.toArray⟩ : ByteArray).data.toList = s from rfl, show Lib.countByte s 10 = 1 from hct] at HCT
        clear hb3 hne hie hfw hct hsl
        go_wp2_with fail
        refine HP.out.mono ?_
        rintro e w4 ⟨v4, rfl, hr4, -, hb4⟩
        have HB4 := Lib.hid (HB3.out.trans (hb4.mono HB3.out.size))
        have HE4 := Lib.hid (HE3.out.below hb4)
        have HG4 := Lib.hid (HG3.out.below hb4)
        have HRO4 := Lib.hid (HRO3.out.below hb4)
        have HR4 := Lib.hid hr4
        have HADL := Lib.hid (addAll_len ub O' [])
        obtain ⟨p4, c4, rfl, -⟩ := hr4
        have hrs := HR4.out
        rw [List.length_map] at hrs
        have HR4 := Lib.hid hrs
        rw [List.length_map]
        clear hb4 hrs
        have HLOW := Lib.hid (fun W => Lower_any U (by omega) W)
        rw [hub] at HLOW
        clear hub
        go_wp2_with fail
        go_loopg [14, 80] O'.length (fun g v14 v80 W => WkRel ub O' w4 g v14 v80 W)
        case atStart => exact ⟨0, rfl, Nat.zero_le _, rfl, World.ownsRow_nil _ _ _ _, Below.refl _ _⟩
        case round =>
          obtain ⟨i, rfl, hi, hg, hown, hb⟩ := hrel
          have HG2' := Lib.hid hg
          have HO2 := Lib.hid hown
          have HBQ := Lib.hid hb
          clear hg hown hb
          by_cases hlt2 : i < O'.length
          · have hi0 : (0 : Int) ≤ (i : Int) := by omega
            have hi1 : (i : Int) < (O'.length : Int) := by omega
            have hwk : IntKind.i64.wrap ((i : Int) + 1) = (i : Int) + 1 := by rw [IntKind.wrap_i64]; omega
            have hx := List.getElem?_eq_getElem hlt2
            obtain ⟨T, hT⟩ : ∃ T, O'[i] = T := ⟨_, rfl⟩
            rw [hT] at hx
            have hat := addAll_take ub hx
            have hal := addAll_len ub (O'.take i) []
            rw [List.length_take] at hal
            obtain ⟨A, hA⟩ : ∃ A, addAll ub [] (O'.take i) = A := ⟨_, rfl⟩
            rw [hA] at HO2 hat hal
            have HAT := Lib.hid hat
            have hA16 : A.length ≤ 16 := by have : ([] : List Tg).length = 0 := rfl; omega
            obtain ⟨pw, cw, rfl⟩ := own_slice HO2.out
            obtain ⟨m, hm⟩ : ∃ m, A.length = m := ⟨_, rfl⟩
            rw [hm] at HO2 hA16
            have HM2 := Lib.hid hm
            rw [hm]
            have hxu : (O'.map up)[i]? = some (up T) := by rw [List.getElem?_map, hx]; rfl
            obtain ⟨p', cap', he, h⟩ := HRO4.out.below HBQ.out
            obtain rfl : cv = cap' := by injection he
            obtain rfl : pv = p' := by injection he
            obtain ⟨b, o, hpb, hc⟩ := grow_at h (by rw [List.length_map]; exact hlt2)
            subst hpb
            clear he h
            obtain ⟨k, ⟨a, b'⟩, n⟩ := T
            have d0 := hc i _ hxu 0 (.int .i64 (k : Int)) rfl
            have d1 := hc i _ hxu 1 (.string ⟨a.toArray⟩) rfl
            have d2 := hc i _ hxu 2 (.string ⟨b'.toArray⟩) rfl
            have d3 := hc i _ hxu 3 (.string ⟨n.toArray⟩) rfl
            rw [Nat.add_zero] at d0
            clear hc hx hxu hT hat hal hA hm
            by_cases hk2 : k = 2
            · subst hk2
              have hown : ownT ub (2, (a, b'), n) = if n = lowL ub then (3, (a, b'), n) else (2, (a, b'), n) := by
                unfold ownT
                by_cases hn : n = lowL ub
                · rw [if_pos ⟨rfl, hn⟩, if_pos hn]
                · rw [if_neg (fun e => hn e.2), if_neg hn]
              obtain ⟨lu, hlu⟩ : ∃ lu, lowL ub = lu := ⟨_, rfl⟩
              rw [hlu] at HLOW hown
              have HOWN := Lib.hid hown
              clear hown hlu
              have HB0 := Lib.hid (alloc_below wr (.cells #[.int .i64 2, .string ⟨a.toArray⟩, .string ⟨b'.toArray⟩, .string ⟨n.toArray⟩] 28))
              have HFF := Lib.hid (Four4.made wr (.int .i64 2) (.string ⟨a.toArray⟩) (.string ⟨b'.toArray⟩) (.string ⟨n.toArray⟩) 28)
              obtain ⟨wy, hwy⟩ : ∃ wy, wr.alloc (.cells #[.int .i64 2, .string ⟨a.toArray⟩, .string ⟨b'.toArray⟩, .string ⟨n.toArray⟩] 28) = wy := ⟨_, rfl⟩
              have hwy2 : wr.alloc (.cells #[.int .i64 ((2 : Nat) : Int), .string ⟨a.toArray⟩, .string ⟨b'.toArray⟩, .string ⟨n.toArray⟩] 28) = wy := hwy
              rw [hwy] at HB0 HFF
              have HKC := Lib.hid (fun W (hb : Below wy.heap.size wy W) => show W.cell? ⟨wr.heap.size, 0, none⟩ = some (.int .i64 2) ∧ W.cell? ⟨wr.heap.size, 1, none⟩ = some (.string ⟨a.toArray⟩) ∧ W.cell? ⟨wr.heap.size, 2, none⟩ = some (.string ⟨b'.toArray⟩) ∧ W.cell? ⟨wr.heap.size, 3, none⟩ = some (.string ⟨n.toArray⟩) from have h := (HFF.out.below hb).c; ⟨h.c0, h.c1, h.c2, h.c3⟩)
              obtain ⟨e0, e1, e2, e3⟩ := HKC.out _ (Below.refl _ wy)
              have hbd := drew_below wy
              have hS := HKC.out _ hbd
              by_cases hn : n = lu
              · subst hn
                go_wp2_with fail
                clear d0 d1 d2 d3 e0 e1 e2 e3
                go_region_held3 (fun W => W.cell? ⟨wr.heap.size, 0, none⟩ = some (.int .i64 2) ∧ W.cell? ⟨wr.heap.size, 1, none⟩ = some (.string ⟨a.toArray⟩) ∧ W.cell? ⟨wr.heap.size, 2, none⟩ = some (.string ⟨b'.toArray⟩) ∧ W.cell? ⟨wr.heap.size, 3, none⟩ = some (.string ⟨n.toArray⟩))
                  (first | exact hS | exact hS7 | go_keep)
                  (first | ((with_reducible refine (HLOW.out _).mono ?_); rintro e w9 ⟨rfl, hb9⟩; have hbd9 := hbd.trans (hb9.mono hbd.size); clear hbd hb9; have hbd := hbd9; clear hbd9; have hS7 := HKC.out _ hbd))
                have HF9 := Lib.hid (HFF.out.below hbd)
                have HFX := Lib.hid (HF9.out.put0 (.int .i64 3))
                have HBX := Lib.hid ((HB0.out.trans (hbd.mono HB0.out.size)).setCell (p := ⟨wr.heap.size, 0, none⟩) (Nat.le_refl _) (.int .i64 3))
                clear hbd hS hS7
                obtain ⟨⟨-, e0, e1, e2, e3⟩, g0, g1, g2, g3⟩ := HF9.out
                have hself : ownT ub (2, (a, b'), n) = (3, (a, b'), n) := by simpa using HOWN.out
                have HSELF := Lib.hid hself
                clear hself
                have HOX := Lib.hid (own_low HO2.out HBX.out)
                have HGX := Lib.hid (GRow.of (C := tiC) tiC_len (show World.ownsRow (w9.setCell ⟨wr.heap.size, 0, none⟩ (.int .i64 3)) w4.heap.size 28 4 (.slice pw m cw) (A.map up).length ((A.map up).flatMap tiC) from by rw [List.length_map, HM2.out]; exact HOX.out))
                have hct := Contains_tg (A.map up) _ (up (3, (a, b'), n)) (w9.setCell ⟨wr.heap.size, 0, none⟩ (.int .i64 3)) HGX.out (by rw [List.length_map, HM2.out]; omega)
                rw [up_contains] at hct
                have HCN := Lib.hid (show Calls Tryz.prog 12 #[.slice pw m cw, .agg #[.int .i64 3, .string ⟨a.toArray⟩, .string ⟨b'.toArray⟩, .string ⟨n.toArray⟩]] (w9.setCell ⟨wr.heap.size, 0, none⟩ (.int .i64 3)) fun e w' => e = .returned (.bool (A.contains (3, (a, b'), n))) ∧ Below (World.heap (w9.setCell ⟨wr.heap.size, 0, none⟩ (.int .i64 3))).size (w9.setCell ⟨wr.heap.size, 0, none⟩ (.int .i64 3)) w' from hct)
                clear hct
                obtain ⟨⟨-, x0, x1, x2, x3⟩, -⟩ := HFX.out
                obtain ⟨C, hC⟩ : ∃ C, A.contains (3, (a, b'), n) = C := ⟨_, rfl⟩
                rw [hC] at HCN
                have HC := Lib.hid hC
                clear hC
                go_wp2_with fail
                refine HCN.out.mono ?_
                rintro e w10 ⟨rfl, hb10⟩
                have HFY := Lib.hid (HFX.out.below hb10)
                have HBY2 := Lib.hid (HBX.out.trans (hb10.mono HBX.out.size))
                have HOY := Lib.hid (own_low HO2.out HBY2.out)
                have HBZ := Lib.hid (HBQ.out.trans (HBY2.out.mono HBQ.out.size))
                have HSZ := Lib.hid HBZ.out.size
                clear hb10 x0 x1 x2 x3
                obtain ⟨⟨-, x0, x1, x2, x3⟩, -⟩ := HFY.out
                cases C with
                | true =>
                  go_wp2_with fail
                  go_roundg (O'.length - (i + 1))
                  case rel =>
                    refine ⟨i + 1, by go_num, by omega, rfl, ?_, HBZ.out⟩
                    rw [HAT.out, add_old _ (by rw [HSELF.out]; rw [List.contains_eq_mem, decide_eq_true_eq] at HC; exact HC.out), HM2.out]
                    exact HOY.out
                  case measure => have := HG2'.out; omega
                | false =>
                  go_wp2_with (first | (at_builtin; refine app_gen rfl _ _ 22 28 4 56 (.agg #[.int .i64 0, .string ⟨#[]⟩, .string ⟨#[]⟩, .string ⟨#[]⟩]) Tryz.underlying22 info28 rfl (by decide) (by decide) rfl w4.heap.size _ _ _ rfl (World.ownsRow.alloc (w := w10) HOY.out _) w10.heap.size 1 [.int .i64 3, .string ⟨a.toArray⟩, .string ⟨b'.toArray⟩, .string ⟨n.toArray⟩] rfl rfl (cells4 _ _ _ _ _ _) (by intro u hu; simp at hu; rcases hu with rfl | rfl | rfl | rfl <;> rfl) (by omega) (by rw [World.size_alloc]; exact Nat.le_succ_of_le HSZ.out) ?_; intro g' cap' w6 hown6 hgr6 hat6) | fail)
                  go_roundg (O'.length - (i + 1))
                  case rel =>
                    refine ⟨i + 1, by go_num, by omega, rfl, ?_, (HBZ.out.alloc HSZ.out _).grown hgr6 (by rw [World.size_alloc]; exact Nat.le_succ_of_le HSZ.out) (own_ge HOY.out)⟩
                    rw [HAT.out, add_new _ (by rw [HSELF.out]; rw [List.contains_eq_mem, decide_eq_false_iff_not] at HC; exact HC.out), HSELF.out, List.length_append, List.length_singleton, HM2.out, List.map_append, List.map_cons, List.map_nil, flat_snoc]
                    exact hown6
                  case measure => have := HG2'.out; omega
              · have hbq : (n == lu) = false := by rw [beq_eq_false_iff_ne]; exact hn
                go_wp2_with fail
                clear d0 d1 d2 d3 e0 e1 e2 e3
                go_region_held3 (fun W => W.cell? ⟨wr.heap.size, 0, none⟩ = some (.int .i64 2) ∧ W.cell? ⟨wr.heap.size, 1, none⟩ = some (.string ⟨a.toArray⟩) ∧ W.cell? ⟨wr.heap.size, 2, none⟩ = some (.string ⟨b'.toArray⟩) ∧ W.cell? ⟨wr.heap.size, 3, none⟩ = some (.string ⟨n.toArray⟩))
                  (first | exact hS | exact hS7 | go_keep)
                  (first | ((with_reducible refine (HLOW.out _).mono ?_); rintro e w9 ⟨rfl, hb9⟩; have hbd9 := hbd.trans (hb9.mono hbd.size); clear hbd hb9; have hbd := hbd9; clear hbd9; have hS7 := HKC.out _ hbd))
                have HFX := Lib.hid (HFF.out.below hbd)
                have HBX := Lib.hid (HB0.out.trans (hbd.mono HB0.out.size))
                clear hbd hS hS7
                have hself : ownT ub (2, (a, b'), n) = (2, (a, b'), n) := by simpa [hn] using HOWN.out
                have HSELF := Lib.hid hself
                clear hself
                have HOX := Lib.hid (own_low HO2.out HBX.out)
                have HGX := Lib.hid (GRow.of (C := tiC) tiC_len (show World.ownsRow w9 w4.heap.size 28 4 (.slice pw m cw) (A.map up).length ((A.map up).flatMap tiC) from by rw [List.length_map, HM2.out]; exact HOX.out))
                have hct := Contains_tg (A.map up) _ (up (2, (a, b'), n)) w9 HGX.out (by rw [List.length_map, HM2.out]; omega)
                rw [up_contains] at hct
                have HCN := Lib.hid (show Calls Tryz.prog 12 #[.slice pw m cw, .agg #[.int .i64 2, .string ⟨a.toArray⟩, .string ⟨b'.toArray⟩, .string ⟨n.toArray⟩]] w9 fun e w' => e = .returned (.bool (A.contains (2, (a, b'), n))) ∧ Below (World.heap w9).size w9 w' from hct)
                clear hct
                obtain ⟨⟨-, x0, x1, x2, x3⟩, -⟩ := HFX.out
                obtain ⟨C, hC⟩ : ∃ C, A.contains (2, (a, b'), n) = C := ⟨_, rfl⟩
                rw [hC] at HCN
                have HC := Lib.hid hC
                clear hC
                go_wp2_with fail
                refine HCN.out.mono ?_
                rintro e w10 ⟨rfl, hb10⟩
                have HFY := Lib.hid (HFX.out.below hb10)
                have HBY2 := Lib.hid (HBX.out.trans (hb10.mono HBX.out.size))
                have HOY := Lib.hid (own_low HO2.out HBY2.out)
                have HBZ := Lib.hid (HBQ.out.trans (HBY2.out.mono HBQ.out.size))
                have HSZ := Lib.hid HBZ.out.size
                clear hb10 x0 x1 x2 x3
                obtain ⟨⟨-, x0, x1, x2, x3⟩, -⟩ := HFY.out
                cases C with
                | true =>
                  go_wp2_with fail
                  go_roundg (O'.length - (i + 1))
                  case rel =>
                    refine ⟨i + 1, by go_num, by omega, rfl, ?_, HBZ.out⟩
                    rw [HAT.out, add_old _ (by rw [HSELF.out]; rw [List.contains_eq_mem, decide_eq_true_eq] at HC; exact HC.out), HM2.out]
                    exact HOY.out
                  case measure => have := HG2'.out; omega
                | false =>
                  go_wp2_with (first | (at_builtin; refine app_gen rfl _ _ 22 28 4 56 (.agg #[.int .i64 0, .string ⟨#[]⟩, .string ⟨#[]⟩, .string ⟨#[]⟩]) Tryz.underlying22 info28 rfl (by decide) (by decide) rfl w4.heap.size _ _ _ rfl (World.ownsRow.alloc (w := w10) HOY.out _) w10.heap.size 1 [.int .i64 2, .string ⟨a.toArray⟩, .string ⟨b'.toArray⟩, .string ⟨n.toArray⟩] rfl rfl (cells4 _ _ _ _ _ _) (by intro u hu; simp at hu; rcases hu with rfl | rfl | rfl | rfl <;> rfl) (by omega) (by rw [World.size_alloc]; exact Nat.le_succ_of_le HSZ.out) ?_; intro g' cap' w6 hown6 hgr6 hat6) | fail)
                  go_roundg (O'.length - (i + 1))
                  case rel =>
                    refine ⟨i + 1, by go_num, by omega, rfl, ?_, (HBZ.out.alloc HSZ.out _).grown hgr6 (by rw [World.size_alloc]; exact Nat.le_succ_of_le HSZ.out) (own_ge HOY.out)⟩
                    rw [HAT.out, add_new _ (by rw [HSELF.out]; rw [List.contains_eq_mem, decide_eq_false_iff_not] at HC; exact HC.out), HSELF.out, List.length_append, List.length_singleton, HM2.out, List.map_append, List.map_cons, List.map_nil, flat_snoc]
                    exact hown6
                  case measure => have := HG2'.out; omega
            · have n2 : ((k : Int) == 2) = false := by rw [beq_eq_false_iff_ne]; omega
              have hself : ownT ub (k, (a, b'), n) = (k, (a, b'), n) := by unfold ownT; rw [if_neg (fun e => hk2 e.1)]
              have HSELF := Lib.hid hself
              clear hself
              have HB0 := Lib.hid (alloc_below wr (.cells #[.int .i64 (k : Int), .string ⟨a.toArray⟩, .string ⟨b'.toArray⟩, .string ⟨n.toArray⟩] 28))
              have HFF := Lib.hid (Four4.made wr (.int .i64 (k : Int)) (.string ⟨a.toArray⟩) (.string ⟨b'.toArray⟩) (.string ⟨n.toArray⟩) 28)
              obtain ⟨wy, hwy⟩ : ∃ wy, wr.alloc (.cells #[.int .i64 (k : Int), .string ⟨a.toArray⟩, .string ⟨b'.toArray⟩, .string ⟨n.toArray⟩] 28) = wy := ⟨_, rfl⟩
              rw [hwy] at HB0 HFF
              obtain ⟨⟨-, e0, e1, e2, e3⟩, -⟩ := HFF.out
              have HFX := Lib.hid (HFF.out.below (drew_below wy))
              have HBX := Lib.hid (HB0.out.trans ((drew_below wy).mono HB0.out.size))
              go_wp2_with fail
              go_region
              clear d0 d1 d2 d3 e0 e1 e2 e3
              have HOX := Lib.hid (own_low HO2.out HBX.out)
              have HGX := Lib.hid (GRow.of (C := tiC) tiC_len (show World.ownsRow wy.drew w4.heap.size 28 4 (.slice pw m cw) (A.map up).length ((A.map up).flatMap tiC) from by rw [List.length_map, HM2.out]; exact HOX.out))
              have hct := Contains_tg (A.map up) _ (up (k, (a, b'), n)) wy.drew HGX.out (by rw [List.length_map, HM2.out]; omega)
              rw [up_contains] at hct
              have HCN := Lib.hid (show Calls Tryz.prog 12 #[.slice pw m cw, .agg #[.int .i64 (k : Int), .string ⟨a.toArray⟩, .string ⟨b'.toArray⟩, .string ⟨n.toArray⟩]] wy.drew fun e w' => e = .returned (.bool (A.contains (k, (a, b'), n))) ∧ Below (World.heap wy.drew).size wy.drew w' from hct)
              clear hct
              obtain ⟨⟨-, x0, x1, x2, x3⟩, -⟩ := HFX.out
              obtain ⟨C, hC⟩ : ∃ C, A.contains (k, (a, b'), n) = C := ⟨_, rfl⟩
              rw [hC] at HCN
              have HC := Lib.hid hC
              clear hC
              go_wp2_with fail
              refine HCN.out.mono ?_
              rintro e w10 ⟨rfl, hb10⟩
              have HFY := Lib.hid (HFX.out.below hb10)
              have HBY2 := Lib.hid (HBX.out.trans (hb10.mono HBX.out.size))
              have HOY := Lib.hid (own_low HO2.out HBY2.out)
              have HBZ := Lib.hid (HBQ.out.trans (HBY2.out.mono HBQ.out.size))
              have HSZ := Lib.hid HBZ.out.size
              clear hb10 x0 x1 x2 x3
              obtain ⟨⟨-, x0, x1, x2, x3⟩, -⟩ := HFY.out
              cases C with
              | true =>
                go_wp2_with fail
                go_roundg (O'.length - (i + 1))
                case rel =>
                  refine ⟨i + 1, by go_num, by omega, rfl, ?_, HBZ.out⟩
                  rw [HAT.out, add_old _ (by rw [HSELF.out]; rw [List.contains_eq_mem, decide_eq_true_eq] at HC; exact HC.out), HM2.out]
                  exact HOY.out
                case measure => have := HG2'.out; omega
              | false =>
                go_wp2_with (first | (at_builtin; refine app_gen rfl _ _ 22 28 4 56 (.agg #[.int .i64 0, .string ⟨#[]⟩, .string ⟨#[]⟩, .string ⟨#[]⟩]) Tryz.underlying22 info28 rfl (by decide) (by decide) rfl w4.heap.size _ _ _ rfl (World.ownsRow.alloc (w := w10) HOY.out _) w10.heap.size 1 [.int .i64 (k : Int), .string ⟨a.toArray⟩, .string ⟨b'.toArray⟩, .string ⟨n.toArray⟩] rfl rfl (cells4 _ _ _ _ _ _) (by intro u hu; simp at hu; rcases hu with rfl | rfl | rfl | rfl <;> rfl) (by omega) (by rw [World.size_alloc]; exact Nat.le_succ_of_le HSZ.out) ?_; intro g' cap' w6 hown6 hgr6 hat6) | fail)
                go_roundg (O'.length - (i + 1))
                case rel =>
                  refine ⟨i + 1, by go_num, by omega, rfl, ?_, (HBZ.out.alloc HSZ.out _).grown hgr6 (by rw [World.size_alloc]; exact Nat.le_succ_of_le HSZ.out) (own_ge HOY.out)⟩
                  rw [HAT.out, add_new _ (by rw [HSELF.out]; rw [List.contains_eq_mem, decide_eq_false_iff_not] at HC; exact HC.out), HSELF.out, List.length_append, List.length_singleton, HM2.out, List.map_append, List.map_cons, List.map_nil, flat_snoc]
                  exact hown6
                case measure => have := HG2'.out; omega
          · have hik2 : i = O'.length := by omega
            have hge2 : ¬ (i : Int) < (O'.length : Int) := by omega
            obtain ⟨pw, cw, rfl⟩ := own_slice HO2.out
            have hown := HO2.out
            have hA : addAll ub [] (O'.take i) = addAll ub [] O' := by rw [hik2, List.take_length]
            rw [hA] at hown
            rw [hA]
            have hrow2 : wr.ownsRow w4.heap.size 28 4 (.slice pw (addAll ub [] O').length cw) ((addAll ub [] O').map up).length (((addAll ub [] O').map up).flatMap tiC) := by
              rw [List.length_map]; exact hown
            have HRW := Lib.hid (GRow.of (C := tiC) tiC_len hrow2)
            clear hown hrow2 hA
            have hal : (addAll ub [] O').length ≤ O'.length := by have := HADL.out; rw [List.length_nil, Nat.zero_add] at this; exact this
            have HEQ := Lib.hid (Equal_tg ((addAll ub [] O').map up) ((addAll ub [] O').map up) _ _ wr (HR4.out.below HBQ.out) HRW.out (by rw [List.length_map]; omega) (by rw [List.length_map]; omega))
            rw [decide_eq_true rfl] at HEQ
            go_wp2_with fail
            refine HEQ.out.mono ?_
            rintro e w6 ⟨rfl, hb6⟩
            have HBS := Lib.hid (HBQ.out.trans (hb6.mono HBQ.out.size))
            clear hb6
            go_wp2_with fail
            refine (HCT.out _).mono ?_
            rintro e w7 ⟨rfl, rfl⟩
            have HTA := Lib.hid (tells_any w7 (HE4.out.below HBS.out) (HG4.out.below HBS.out))
            go_wp2_with fail
            refine HTA.out.mono ?_
            rintro e w8 ⟨rfl, hb8⟩
            have HB8 := Lib.hid (HB4.out.trans ((HBS.out.trans (hb8.mono HBS.out.size)).mono HB4.out.size))
            clear hb8
            go_wp2
            go_ret
            exact ⟨rfl, HB8.out⟩
end Go.Proofs.YtkoncmmbdlnmfaaGreatDoor
