/- forward.said: what it hands back. -/
import Derived.Test.YtkoncmmbdlnmfaaGreatDoorLinI
import Derived.Test.YtkoncmmbdlnmfaaGreatDoorParT
namespace Go.Proofs.YtkoncmmbdlnmfaaGreatDoor
open Go.RowKit Go.Lib
set_option linter.unusedSimpArgs false
set_option linter.unusedVariables false
set_option linter.unnecessarySimpa false
set_option maxRecDepth 100000

theorem vals_len {s : List UInt8} : ∀ ws, valsL s = some ws → ws.length ≤ 16 ∧ ∀ w ∈ ws, w.length ≤ s.length := by
  intro ws h
  unfold valsL at h
  split at h
  · split at h
    · cases h
    · rename_i h16
      injection h with h
      subst h
      refine ⟨by rw [List.length_map]; omega, fun w hw => ?_⟩
      obtain ⟨p, hp, rfl⟩ := List.mem_map.1 hw
      exact Nat.le_trans (trimW_len p) (pieces_small 44 s p hp)
  · cases h
theorem info28 : (Tryz.prog.info? 28).map (fun i => (i.zero, i.size, i.bytes)) = some (some (.agg #[.int .i64 0, .string ⟨#[]⟩, .string ⟨#[]⟩, .string ⟨#[]⟩]), 4, 56) := by kernel_rfl
theorem cells4 (w : World) (a b c d : Value) (t : TypeId) : ∀ (j : Nat) (u : Value), [a, b, c, d][j]? = some u → (w.alloc (.cells #[a, b, c, d] t)).cell? ⟨w.heap.size, j, none⟩ = some u := by
  intro j u h
  match j, h with
  | 0, h => simp at h; subst h; simp
  | 1, h => simp at h; subst h; simp
  | 2, h => simp at h; subst h; simp
  | 3, h => simp at h; subst h; simp
  | n + 4, h => simp at h
theorem tgC_one (t : TI) : ∀ u ∈ tiC t, u.oneCell' = true := by
  intro u hu
  simp [tiC] at hu
  rcases hu with rfl | rfl | rfl | rfl <;> rfl
theorem targs_snoc : ∀ (ws : List (List UInt8)) (w : List UInt8) (l : List Tg) (t : Tg), targsL ws = some l → targL w = some t → targsL (ws ++ [w]) = some (l ++ [t])
  | [], w, l, t, h1, h2 => by
    injection h1 with h1
    subst h1
    show (match targL w with | none => none | some t => some [t]) = _
    rw [h2]
    rfl
  | x :: ws, w, l, t, h1, h2 => by
    rw [targsL] at h1
    split at h1
    · cases h1
    · rename_i y hy
      split at h1
      · cases h1
      · rename_i l' hl
        injection h1 with h1
        subst h1
        rw [List.cons_append, targsL, hy, targs_snoc ws w l' t hl h2]
        rfl
theorem targs_bad : ∀ (ws : List (List UInt8)) (w : List UInt8) (r : List (List UInt8)), targL w = none → targsL (ws ++ w :: r) = none
  | [], w, r, h => by
    rw [List.nil_append, targsL, h]
  | x :: ws, w, r, h => by
    rw [List.cons_append, targsL, targs_bad ws w r h]
    split <;> rfl
/-- a row of targets. -/
abbrev TRow (w : World) (v : Value) (l : List Tg) : Prop := GRow 4 tiC w v (l.map up)
/-- what said hands back. -/
def SayP (B : Nat) (o : Option (List Tg)) (e : Ending) (W : World) : Prop := match o with
  | some l => ∃ v, e = .returned (.tuple #[v, .bool true]) ∧ TRow W v l ∧ ∀ g, v.ownBlock = some g → B ≤ g
  | none => e = .returned (.tuple #[.slice none 0 0, .bool false])
def SayRel (ws : List (List UInt8)) (w2 : World) (g : Nat) (v6 v20 : Value) (W : World) : Prop :=
  ∃ (i : Nat) (l : List Tg), v20 = .int .i64 (i : Int) ∧ i ≤ ws.length ∧ g = ws.length - i ∧ targsL (ws.take i) = some l ∧ l.length = i ∧ W.ownsRow w2.heap.size 28 4 v6 l.length ((l.map up).flatMap tiC) ∧ Below w2.heap.size w2 W
theorem may_kind (t : Tg) : (decide ((1 : Int) ≤ (t.1 : Int)) && decide ((t.1 : Int) ≤ 4)) = (decide (1 ≤ t.1) && decide (t.1 ≤ 4)) := by
  congr 1
  · congr 1; exact propext (by omega)
  · congr 1; exact propext (by omega)
set_option maxHeartbeats 8000000 in
theorem said_any (s : ByteArray) (hs : s.size ≤ 100000) (hq : ∀ b ∈ s.data.toList, b ≠ 34) (hp : printL s.data.toList = true) (w : World) (hE : Env w) (hB : Begs w) :
    Calls Tryz.prog 40 #[.string s] w fun e w' => SayP w.heap.size (saidL s.data.toList) e w' ∧ Below w.heap.size w w' := by
  have HV := Lib.hid (Values_any s (by omega) hq hp w hE)
  have hsd : saidL s.data.toList = match valsL s.data.toList with | none => none | some ws => targsL ws := rfl
  have hvl := vals_len (s := s.data.toList)
  rw [hsd]
  clear hsd
  generalize valsL s.data.toList = V at HV hvl ⊢
  have HE := Lib.hid hE
  have HB := Lib.hid hB
  clear hE hB hq hp
  cases V with
  | none =>
    go_enter Tryz.func40, Tryz.ntmps40
    go_wp2_with fail
    refine HV.out.mono ?_
    rintro e w2 ⟨⟨c, hc, rfl⟩, hb2⟩
    have hc0 : ((c : Int) != 0) = true := by rw [bne_iff_ne]; omega
    go_wp2
    go_ret2
    exact ⟨rfl, hb2⟩
  | some ws =>
    go_enter Tryz.func40, Tryz.ntmps40
    go_wp2_with fail
    refine HV.out.mono ?_
    rintro e w2 ⟨⟨v, rfl, hrow⟩, hb2⟩
    have HROW := Lib.hid hrow
    have HB2 := Lib.hid hb2
    have HE2 := Lib.hid (HE.out.below hb2)
    have HG2 := Lib.hid (HB.out.below hb2)
    obtain ⟨p, cap, rfl, -⟩ := hrow
    have hwl := hvl ws rfl
    rw [List.length_map]
    clear hb2 hvl
    go_wp2_with fail
    go_loopg [6, 20] ws.length (fun g v6 v20 W => SayRel ws w2 g v6 v20 W)
    case atStart => exact ⟨0, [], rfl, Nat.zero_le _, rfl, rfl, rfl, World.ownsRow_nil _ _ _ _, Below.refl _ _⟩
    case round =>
      obtain ⟨i, l, rfl, hi, hg, htl, hli, hown, hb⟩ := hrel
      have HG := Lib.hid hg
      have HTL := Lib.hid htl
      have HOW := Lib.hid hown
      have HBW := Lib.hid hb
      have HLI := Lib.hid hli
      clear hg htl hown hb hli
      by_cases hlt : i < ws.length
      · have hi0 : (0 : Int) ≤ (i : Int) := by omega
        have hi1 : (i : Int) < (ws.length : Int) := by omega
        have hwk : IntKind.i64.wrap ((i : Int) + 1) = (i : Int) + 1 := by rw [IntKind.wrap_i64]; omega
        have hx := List.getElem?_eq_getElem hlt
        obtain ⟨X, hX⟩ : ∃ X, ws[i] = X := ⟨_, rfl⟩
        rw [hX] at hx
        have hXl := hwl.2 X (by rw [← hX]; exact List.getElem_mem hlt)
        rw [list_len] at hXl
        have hr := HROW.out.below HBW.out
        obtain ⟨p', cap', he, h | ⟨b, o, hpb, hbl, hc⟩⟩ := hr
        · exfalso
          have := congrArg List.length h
          rw [List.length_map, List.length_nil] at this
          omega
        obtain rfl : cap = cap' := by injection he
        obtain rfl : p = p' := by injection he
        subst hpb
        clear he
        have hci := hc i (by rw [List.length_map]; exact hlt)
        rw [List.getElem_map, hX] at hci
        simp only [strV] at hci
        have HTK := Lib.hid (show ws.take (i + 1) = ws.take i ++ [X] by rw [List.take_add_one, hx]; rfl)
        have HDR := Lib.hid (show ws = ws.take i ++ X :: ws.drop (i + 1) by
          have := List.take_append_drop i ws
          rw [List.drop_eq_getElem_cons hlt, hX] at this
          exact this.symm)
        have HPT := Lib.hid (ParT_any ⟨X.toArray⟩ (by show X.length ≤ _; omega) wr (HE2.out.below HBW.out) (HG2.out.below HBW.out))
        rw [show (⟨X.toArray⟩ : ByteArray).data.toList = X from rfl] at HPT
        have HTF := Lib.hid (fun t => targF_low (s := X) (t := t))
        have HTN := Lib.hid (targ_from (s := X))
        have HTU := Lib.hid (fun t => targF_up (s := X) (t := t))
        clear hc hX hx
        unfold ParR at HPT
        generalize hTX : targF X = T at HPT HTF HTN HTU
        clear hTX
        go_wp2_with fail
        refine HPT.out.mono ?_
        rintro e w3 ⟨⟨c, rfl, hc⟩, hb3⟩
        cases T with
        | none =>
          have hc0 : ((c : Int) != 0) = true := by
            rw [bne_iff_ne]
            intro e
            have : c = 0 := by omega
            rw [hc] at this
            cases this
          have hN : targsL ws = none := by rw [HDR.out]; exact targs_bad _ _ _ (HTN.out rfl)
          have HN := Lib.hid hN
          have HBF := Lib.hid (HB2.out.trans ((HBW.out.trans (hb3.mono HBW.out.size)).mono HB2.out.size))
          clear hN hc hb3
          simp only [Option.getD_none, tgV, tg0]
          go_wp2
          go_ret2
          exact ⟨by rw [HN.out]; rfl, HBF.out.trans ((alloc_below w3 _).mono HBF.out.size)⟩
        | some t =>
          have h0 : c = 0 := hc.2 rfl
          subst h0
          have hlow := HTF.out t rfl
          have HBF := Lib.hid (HBW.out.trans (hb3.mono HBW.out.size))
          have HO3 := Lib.hid (own_low HOW.out hb3)
          clear hc hb3
          obtain ⟨k, ⟨a, b'⟩, n⟩ := t
          simp only [Option.getD_some, tgV]
          have HMY := Lib.hid (fun W => may_any (k : Int) ⟨a.toArray⟩ ⟨b'.toArray⟩ ⟨n.toArray⟩ W)
          have HF3 := Lib.hid (Four4.made w3 (.int .i64 (k : Int)) (.string ⟨a.toArray⟩) (.string ⟨b'.toArray⟩) (.string ⟨n.toArray⟩) 28)
          have HB4 := Lib.hid (HBF.out.trans ((alloc_below w3 (.cells #[.int .i64 (k : Int), .string ⟨a.toArray⟩, .string ⟨b'.toArray⟩, .string ⟨n.toArray⟩] 28)).mono HBF.out.size))
          have HO4 := Lib.hid (HO3.out.alloc (.cells #[.int .i64 (k : Int), .string ⟨a.toArray⟩, .string ⟨b'.toArray⟩, .string ⟨n.toArray⟩] 28))
          obtain ⟨⟨-, d0, d1, d2, d3⟩, -⟩ := HF3.out
          by_cases h4 : k ≤ 4
          · have hTL : targL X = some (k, (a, b'), n) := hlow.2.2 h4
            have h1i : decide ((1 : Int) ≤ (k : Int)) = true := by rw [decide_eq_true_eq]; have := hlow.1; simp only at this; omega
            have h4i : decide ((k : Int) ≤ 4) = true := by rw [decide_eq_true_eq]; omega
            rw [h1i, h4i] at HMY
            have HXT := Lib.hid hTL
            clear hTL h1i h4i hlow
            go_wp2_with fail
            refine (HMY.out _).mono ?_
            rintro e w5 ⟨rfl, hb5⟩
            have HB5 := Lib.hid (HB4.out.trans (hb5.mono HB4.out.size))
            have HO5 := Lib.hid (own_low HO4.out hb5)
            have hbs := HB5.out.size
            have hlw := HLI.out
            clear d0 d1 d2 d3
            obtain ⟨⟨-, d0, d1, d2, d3⟩, -⟩ := HF3.out.below hb5
            clear hb5
            go_wp2_with (first | (at_builtin; refine app_gen rfl _ _ 22 28 4 56 (.agg #[.int .i64 0, .string ⟨#[]⟩, .string ⟨#[]⟩, .string ⟨#[]⟩]) Tryz.underlying22 info28 rfl (by decide) (by decide) rfl w2.heap.size _ _ _ rfl (World.ownsRow.alloc (w := w5) HO5.out _) w5.heap.size 1 [.int .i64 (k : Int), .string ⟨a.toArray⟩, .string ⟨b'.toArray⟩, .string ⟨n.toArray⟩] rfl rfl (cells4 _ _ _ _ _ _) (by intro u hu; simp at hu; rcases hu with rfl | rfl | rfl | rfl <;> rfl) (by omega) (by rw [World.size_alloc]; exact Nat.le_succ_of_le hbs) ?_; intro g' cap' w6 hown6 hgr6 hat6) | fail)
            go_roundg (ws.length - (i + 1))
            case rel =>
              refine ⟨i + 1, l ++ [(k, (a, b'), n)], by go_num, by omega, rfl, by rw [HTK.out]; exact targs_snoc _ _ _ _ HTL.out HXT.out, by rw [List.length_append, List.length_singleton, HLI.out], ?_, ?_⟩
              · rw [List.length_append, List.map_append, List.map_cons, List.map_nil, flat_snoc]
                have h6 := hown6
                rw [HLI.out] at h6
                rw [HLI.out]
                exact h6
              · exact (HB5.out.alloc hbs _).grown hgr6 (by rw [World.size_alloc]; exact Nat.le_succ_of_le hbs) (own_ge HO5.out)
            case measure => have := HG.out; omega
          · have hTL : targL X = none := by
              cases hh : targL X with
              | none => rfl
              | some t' =>
                have := HTU.out t' hh
                injection this with this
                subst this
                exact absurd (targ_kind hh).2.1 h4
            have hN : targsL ws = none := by rw [HDR.out]; exact targs_bad _ _ _ hTL
            have h4i : decide ((k : Int) ≤ 4) = false := by rw [decide_eq_false_iff_not]; omega
            rw [h4i, Bool.and_false] at HMY
            have HN := Lib.hid hN
            clear hN hTL h4i hlow
            go_wp2_with fail
            refine (HMY.out _).mono ?_
            rintro e w5 ⟨rfl, hb5⟩
            have HB5 := Lib.hid (HB4.out.trans (hb5.mono HB4.out.size))
            go_wp2
            go_ret2
            exact ⟨by rw [HN.out]; rfl, HB2.out.trans (HB5.out.mono HB2.out.size)⟩
      · have hik : i = ws.length := by omega
        subst hik
        have htl := HTL.out
        rw [List.take_length] at htl
        have hrow6 := HOW.out
        rw [show l.length = (l.map up).length from (List.length_map _).symm] at hrow6
        have HR := Lib.hid (GRow.of (C := tiC) (fun _ => rfl) hrow6)
        clear hrow6
        have HTL2 := Lib.hid htl
        have HGE := Lib.hid (fun g hg => Nat.le_trans HB2.out.size (own_ge HOW.out g hg))
        clear htl
        go_wp2
        go_ret2
        exact ⟨by rw [HTL2.out]; exact ⟨_, rfl, HR.out, HGE.out⟩, HB2.out.trans (HBW.out.mono HB2.out.size)⟩
end Go.Proofs.YtkoncmmbdlnmfaaGreatDoor
