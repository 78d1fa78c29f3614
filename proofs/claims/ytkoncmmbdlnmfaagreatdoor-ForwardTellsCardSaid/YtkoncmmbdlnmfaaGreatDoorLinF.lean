/- lines.logical: what it hands back. -/
import Derived.Test.YtkoncmmbdlnmfaaGreatDoorLinE
import Derived.WalkMore
namespace Go.Proofs.YtkoncmmbdlnmfaaGreatDoor
open Go.RowKit Go.Lib
set_option linter.unusedSimpArgs false
set_option linter.unusedVariables false
set_option linter.unnecessarySimpa false
set_option maxRecDepth 100000

theorem info148 : (Tryz.prog.info? 148).map (fun i => (i.zero, i.size, i.bytes)) = some (some (.agg #[.int .i64 0, .string ⟨#[]⟩, .bool false]), 3, 32) := by kernel_rfl
theorem cells3 (w : World) (a b c : Value) (t : TypeId) : ∀ (j : Nat) (u : Value), [a, b, c][j]? = some u → (w.alloc (.cells #[a, b, c] t)).cell? ⟨w.heap.size, j, none⟩ = some u := by
  intro j u h
  match j, h with
  | 0, h => simp at h; subst h; simp
  | 1, h => simp at h; subst h; simp
  | 2, h => simp at h; subst h; simp
  | n + 3, h => simp at h
theorem own_ge {w : World} {B e k n : Nat} {v : Value} {xs : List Value} (h : w.ownsRow B e k v n xs) : ∀ g, v.ownBlock = some g → B ≤ g := by
  intro g hg
  obtain ⟨_, ⟨rfl, _⟩ | ⟨g', cap', cur, rfl, hg', _⟩⟩ := h
  · simp [Value.ownBlock] at hg
  · simp only [Value.ownBlock, Option.some.injEq] at hg
    omega
theorem wrap64_small (n : Nat) (h : n ≤ 1000000) : wrap64 (n : Int) = (n : Int) := by
  unfold wrap64
  rw [Int.emod_eq_of_lt (by omega) (by omega)]
  omega
/-- the rest of the pieces, as the bound has it. -/
def restL (ps : List (List UInt8)) (i : Nat) : Nat := ((ps.drop i).map (fun p => p.length + 1)).sum
theorem restL_at {ps : List (List UInt8)} {i : Nat} {x : List UInt8} (h : ps[i]? = some x) : restL ps i = x.length + 1 + restL ps (i + 1) := by
  obtain ⟨hl, he⟩ := List.getElem?_eq_some_iff.1 h
  unfold restL
  rw [List.drop_eq_getElem_cons hl, List.map_cons, List.sum_cons, he]
def LogRel (ps : List (List UInt8)) (N : Nat) (w : World) (g : Nat) (v3 v4 v11 : Value) (W : World) : Prop :=
  ∃ (i : Nat) (st : List Sd × Bool), v11 = .int .i64 (i : Int) ∧ i ≤ ps.length ∧ g = ps.length - i ∧ v4 = .bool st.2 ∧ st = logGo (ps.take i) 0 ([], false) ∧
    W.ownsRow w.heap.size 148 3 v3 st.1.length (st.1.flatMap sdC) ∧ Below w.heap.size w W ∧ (∀ y ∈ st.1, y.2.1.length + restL ps i ≤ N) ∧ restL ps i ≤ N ∧ (st.2 = true → st.1 ≠ []) ∧ st.1.length ≤ i
theorem log_at {ps : List (List UInt8)} {i : Nat} {x : List UInt8} (h : ps[i]? = some x) : logGo (ps.take (i + 1)) 0 ([], false) = logStep (logGo (ps.take i) 0 ([], false)) i x := by
  obtain ⟨hl, he⟩ := List.getElem?_eq_some_iff.1 h
  have e : ps.take (i + 1) = ps.take i ++ [x] := by rw [List.take_add_one, h]; rfl
  rw [e, log_snoc, Nat.zero_add, List.length_take, Nat.min_eq_left (Nat.le_of_lt hl)]
/-- a row of what lines say. -/
abbrev SdRow := GRow 3 sdC
set_option maxHeartbeats 8000000 in
theorem logical_any (s : ByteArray) (hs : s.size ≤ 100000) (w : World) (hE : Env w) :
    Calls Tryz.prog 75 #[.string s] w fun e w' => ∃ v, e = .returned v ∧ SdRow w' v (logicalL s.data.toList) ∧ Below w.heap.size w w' := by
  obtain ⟨m, hm⟩ := hE.m
  have HSP := Lib.hid (Tryz.strings_Split s ⟨#[10]⟩ m w (by omega) hm (by decide))
  have hrow0 := Row.of_split w 10 s
  have hb0 := alloc_below w (.cells ((Lib.splitB ⟨#[10]⟩ 0 (Lib.countB s ⟨#[10]⟩) s).map Value.string).toArray 9)
  have hL : logicalL s.data.toList = (logGo (pieces 10 s.data.toList) 0 ([], false)).1 := rfl
  have hsum := pieces_sum 10 s.data.toList
  have hpl := splitB_length 10 s
  have hpc := pieces_len 10 s.data.toList
  generalize logicalL s.data.toList = L at hL ⊢
  generalize hps : pieces 10 s.data.toList = ps at hrow0 hL hsum hpl hpc
  generalize w.alloc (.cells ((Lib.splitB ⟨#[10]⟩ 0 (Lib.countB s ⟨#[10]⟩) s).map Value.string).toArray 9) = w1 at HSP hrow0 hb0
  rw [hpl] at HSP hrow0
  rw [list_len] at hsum hpc
  clear hpl hps hm
  have HROW := Lib.hid hrow0
  have HL := Lib.hid hL
  have HB0 := Lib.hid hb0
  clear hrow0 hL hb0 hE
  go_enter Tryz.func75, Tryz.ntmps75
  go_wp2_with fail
  go_step3
  go_wp2_with fail
  go_step3
  go_wp2_with fail
  refine HSP.out.mono ?_
  rintro e w2 ⟨rfl, rfl⟩
  go_wp2_with fail
  go_loopg [3, 4, 11] ps.length (fun g v3 v4 v11 W => LogRel ps (s.size + 1) w2 g v3 v4 v11 W)
  case atStart => exact ⟨0, ([], false), rfl, Nat.zero_le _, rfl, rfl, rfl, World.ownsRow_nil _ _ _ _, Below.refl _ _, (fun y hy => by cases hy), by show restL ps 0 ≤ _; unfold restL; rw [List.drop_zero]; omega, (fun h => by cases h), Nat.zero_le _⟩
  case round =>
    obtain ⟨i, st, rfl, hi, hg, rfl, hst, hown, hb, hbd, hbr, hne, hmany⟩ := hrel
    have HG := Lib.hid hg
    have HST := Lib.hid hst
    have HB := Lib.hid hb
    have HBD := Lib.hid hbd
    have HNE := Lib.hid hne
    have HOWN := Lib.hid hown
    clear hg hst hb hbd hne hown
    by_cases hlt : i < ps.length
    · have hi0 : (0 : Int) ≤ (i : Int) := by omega
      have hi1 : (i : Int) < (ps.length : Int) := by omega
      have hwk : IntKind.i64.wrap ((i : Int) + 1) = (i : Int) + 1 := by rw [IntKind.wrap_i64]; omega
      have hk := List.getElem?_eq_getElem hlt
      obtain ⟨X, hX⟩ : ∃ X, ps[i] = X := ⟨_, rfl⟩
      rw [hX] at hk
      have HRA := Lib.hid (restL_at hk)
      have HLA := Lib.hid (log_at hk)
      have HSTP := Lib.hid (log_bound st i X (restL ps (i + 1)) (s.size + 1) (fun y hy => by have := HBD.out y hy; rw [HRA.out] at this; exact this) (by have := HRA.out; omega))
      have HSM := Lib.hid (log_some st i X HNE.out)
      have HMN := Lib.hid (log_many st i X)
      have hr := HROW.out.below HB.out
      obtain ⟨pp, cap, he, h | ⟨b, o, rfl, hbl, hc⟩⟩ := hr
      · exfalso
        have := congrArg List.length h
        rw [List.length_map, List.length_nil] at this
        omega
      obtain ⟨rfl, rfl, rfl⟩ : b = w.heap.size ∧ o = 0 ∧ cap = ps.length := by
        injection he with e1 _ e3
        injection e1 with e1
        injection e1 with e1 e2
        exact ⟨e1.symm, e2.symm, by rw [List.length_map] at *; exact e3.symm⟩
      clear he
      have hci := hc i (by rw [List.length_map]; exact hlt)
      rw [List.getElem_map, hX] at hci
      simp only [strV, Nat.zero_add] at hci
      clear hc hX hk
      have hXl : X.length ≤ s.size := by have := HRA.out; omega
      have HTS := Lib.hid (Tryz.strings_TrimSuffix ⟨X.toArray⟩ ⟨#[13]⟩ wr (by show X.length ≤ _; omega))
      rw [show (⟨X.toArray⟩ : ByteArray).data.toList = X from rfl, show (⟨#[13]⟩ : ByteArray).data.toList = [13] from rfl, cutCR_suffix] at HTS
      have HLS := Lib.hid (show logStep st i X = if trimW (cutCR X) = [] ∨ (trimW (cutCR X)).head? = some 35 then st
        else if (trimW (cutCR X)).head? = (cutCR X).head? then (st.1 ++ [(i + 1, trimW (cutCR X), false)], true)
        else if st.2 = false then (st.1 ++ [(i + 1, trimW (cutCR X), true)], st.2)
        else (goOn st.1 (trimW (cutCR X)), st.2) from rfl)
      have hCl := Nat.le_trans (cutCR_len X) hXl
      generalize cutCR X = C at HTS HLS hCl
      have HTR := Lib.hid (fun W => trim_any ⟨C.toArray⟩ (by show C.length ≤ _; omega) W)
      rw [show (⟨C.toArray⟩ : ByteArray).data.toList = C from rfl] at HTR
      have hBl := Nat.le_trans (trimW_len C) hCl
      have hCne : trimW C ≠ [] → C ≠ [] := fun h e => h (by rw [e]; rfl)
      generalize trimW C = B at HTR HLS hBl hCne
      have HCN := Lib.hid hCne
      clear hCne
      go_wp2_with fail
      refine HTS.out.mono ?_
      rintro e w3' ⟨rfl, rfl⟩
      go_wp2_with fail
      refine (HTR.out _).mono ?_
      rintro e w3 ⟨rfl, hb3⟩
      have hown3 := own_low HOWN.out hb3
      have HB3 := Lib.hid (HB.out.trans (hb3.mono HB.out.size))
      have hbs := HB3.out.size
      clear hb3
      by_cases hB0 : B = []
      · subst hB0
        have hs : logStep st i X = (st.1, st.2) := by rw [HLS.out, if_pos (.inl rfl)]
        have HS := Lib.hid hs
        clear hs
        go_wp2_with fail
        go_roundg (ps.length - (i + 1))
        case rel =>
          have hs := HS.out
          refine ⟨i + 1, (st.1, st.2), by go_num, by omega, rfl, rfl, by rw [HLA.out, ← HST.out]; exact hs.symm, hown3, HB3.out, by have := HSTP.out; rw [hs] at this; exact this, by have := HRA.out; omega, by have := HSM.out; rw [hs] at this; exact this, by have := HMN.out; rw [hs] at this; omega⟩
        case measure => have := HG.out; omega
      · obtain ⟨b0, B', rfl⟩ := List.exists_cons_of_ne_nil hB0
        obtain ⟨c0, C', rfl⟩ := List.exists_cons_of_ne_nil (HCN.out hB0)
        have hsB : (⟨(b0 :: B').toArray⟩ : ByteArray).size = B'.length + 1 := rfl
        have hsC : (⟨(c0 :: C').toArray⟩ : ByteArray).size = C'.length + 1 := rfl
        have hB1 : (⟨(b0 :: B').toArray⟩ : ByteArray)[0]'(by rw [hsB]; omega) = b0 := rfl
        have hC1 : (⟨(c0 :: C').toArray⟩ : ByteArray)[0]'(by rw [hsC]; omega) = c0 := rfl
        by_cases h35 : b0 = 35
        · subst h35
          have hs : logStep st i X = (st.1, st.2) := by rw [HLS.out, if_pos (.inr rfl)]
          have HS := Lib.hid hs
          clear hs
          go_wp2_with fail
          go_roundg (ps.length - (i + 1))
          case rel =>
            have hs := HS.out
            refine ⟨i + 1, (st.1, st.2), by go_num, by omega, rfl, rfl, by rw [HLA.out, ← HST.out]; exact hs.symm, hown3, HB3.out, by have := HSTP.out; rw [hs] at this; exact this, by have := HRA.out; omega, by have := HSM.out; rw [hs] at this; exact this, by have := HMN.out; rw [hs] at this; omega⟩
          case measure => have := HG.out; omega
        · have n35 : ((b0.toNat : Int) == 35) = false := by
            rw [beq_eq_false_iff_ne]
            intro e
            exact h35 (UInt8.toNat_inj.1 (show b0.toNat = (35 : UInt8).toNat from by show b0.toNat = 35; omega))
          have HLS2 := HLS.out
          rw [if_neg (by simp [h35])] at HLS2
          by_cases hbc : b0 = c0
          · subst hbc
            rw [if_pos (by simp)] at HLS2
            have HS := Lib.hid HLS2
            clear HLS2
            go_wp2_with fail
            go_region
            go_wp2_with (first | (at_builtin; refine app_gen rfl _ _ 145 148 3 32 (.agg #[.int .i64 0, .string ⟨#[]⟩, .bool false]) Tryz.underlying145 info148 rfl (by decide) (by decide) rfl w2.heap.size _ _ _ rfl (World.ownsRow.drew (World.ownsRow.alloc (w := w3) hown3 _)) w3.heap.size 1 [.int .i64 ((i : Int) + 1), .string ⟨(b0 :: B').toArray⟩, .bool false] rfl rfl (fun j u h => cells3 w3 _ _ _ 148 j u h) (by intro u hu; simp at hu; rcases hu with rfl | rfl | rfl <;> rfl) (by omega) (by show w2.heap.size ≤ (w3.alloc _).heap.size; rw [World.size_alloc]; exact Nat.le_succ_of_le hbs) ?_; intro g' cap' w4 hown4 hgr hat) | fail)
            go_roundg (ps.length - (i + 1))
            case rel =>
              have hs := HS.out
              refine ⟨i + 1, (st.1 ++ [(i + 1, b0 :: B', false)], true), by go_num, by omega, rfl, rfl, by rw [HLA.out, ← HST.out]; exact hs.symm, by rw [List.length_append, flat_snoc]; exact hown4, ((HB3.out.alloc hbs _).trans ((drew_below (w3.alloc _)).mono (by rw [World.size_alloc]; exact Nat.le_succ_of_le hbs))).grown hgr (by show w2.heap.size ≤ (w3.alloc _).heap.size; rw [World.size_alloc]; exact Nat.le_succ_of_le hbs) (own_ge hown3), by have := HSTP.out; rw [hs] at this; exact this, by have := HRA.out; omega, by have := HSM.out; rw [hs] at this; exact this, by have := HMN.out; rw [hs] at this; omega⟩
            case measure => have := HG.out; omega
          · have nbc : ((b0.toNat : Int) == c0.toNat) = false := by
              rw [beq_eq_false_iff_ne]
              intro e
              exact hbc (UInt8.toNat_inj.1 (by omega))
            rw [if_neg (by simp [hbc])] at HLS2
            cases hst2 : st.2 with
            | false =>
              rw [if_pos hst2, hst2] at HLS2
              have HS := Lib.hid HLS2
              clear HLS2
              go_wp2_with fail
              go_region
              go_wp2_with (first | (at_builtin; refine app_gen rfl _ _ 145 148 3 32 (.agg #[.int .i64 0, .string ⟨#[]⟩, .bool false]) Tryz.underlying145 info148 rfl (by decide) (by decide) rfl w2.heap.size _ _ _ rfl (World.ownsRow.drew (World.ownsRow.alloc (w := w3) hown3 _)) w3.heap.size 1 [.int .i64 ((i : Int) + 1), .string ⟨(b0 :: B').toArray⟩, .bool true] rfl rfl (fun j u h => cells3 w3 _ _ _ 148 j u h) (by intro u hu; simp at hu; rcases hu with rfl | rfl | rfl <;> rfl) (by omega) (by show w2.heap.size ≤ (w3.alloc _).heap.size; rw [World.size_alloc]; exact Nat.le_succ_of_le hbs) ?_; intro g' cap' w4 hown4 hgr hat) | fail)
              go_roundg (ps.length - (i + 1))
              case rel =>
                have hs := HS.out
                refine ⟨i + 1, (st.1 ++ [(i + 1, b0 :: B', true)], false), by go_num, by omega, rfl, rfl, by rw [HLA.out, ← HST.out]; exact hs.symm, by rw [List.length_append, flat_snoc]; exact hown4, ((HB3.out.alloc hbs _).trans ((drew_below (w3.alloc _)).mono (by rw [World.size_alloc]; exact Nat.le_succ_of_le hbs))).grown hgr (by show w2.heap.size ≤ (w3.alloc _).heap.size; rw [World.size_alloc]; exact Nat.le_succ_of_le hbs) (own_ge hown3), by have := HSTP.out; rw [hs] at this; exact this, by have := HRA.out; omega, by have := HSM.out; rw [hs] at this; exact this, by have := HMN.out; rw [hs] at this; omega⟩
              case measure => have := HG.out; omega
            | true =>
              rw [if_neg (by rw [hst2]; simp), hst2] at HLS2
              have HS := Lib.hid HLS2
              have hne := HNE.out hst2
              clear HLS2
              obtain ⟨init, x, hix⟩ : ∃ init x, st.1 = init ++ [x] := ⟨st.1.dropLast, st.1.getLast hne, (List.dropLast_concat_getLast hne).symm⟩
              have hcl := goOn_cells hix (b0 :: B')
              have hgl : (goOn st.1 (b0 :: B')).length = st.1.length := by rw [goOn_some init hix, hix]; simp
              have hil : st.1.length = init.length + 1 := by rw [hix]; simp
              rw [hil] at hown3
              obtain ⟨g, cap3, hv3, hgB, hglt⟩ := hown3.form (by omega)
              subst hv3
              have hxl : x.2.1.length ≤ s.size + 1 := by
                have := HBD.out x (by rw [hix]; simp)
                omega
              have hadd : ∀ j, (⟨g, 0, none⟩ : Addr).add j = ⟨g, j, none⟩ := fun j => by unfold Addr.add; split <;> simp_all
              have hcx : w3.cell? ⟨g, init.length * 3 + 1, none⟩ = some (.string ⟨x.2.1.toArray⟩) := by
                have h1 := flat_get (k := 3) (C := sdC) (fun _ => rfl) st.1 init.length 1 x (by rw [hix]; simp) (by omega)
                have := World.ownsRow.cells hown3 (g := g) rfl (init.length * 3 + 1) (.string ⟨x.2.1.toArray⟩) (by rw [h1]; rfl)
                rwa [hadd] at this
              have hfx := own_free hown3 (init.length * 3 + 1)
              have hset := own_set hown3 (init.length * 3 + 1) (.string ⟨(x.2.1 ++ 32 :: b0 :: B').toArray⟩)
              rw [← hcl] at hset
              have HSET := Lib.hid hset
              have hSB : (⟨x.2.1.toArray⟩ : ByteArray) ++ ((⟨#[32]⟩ : ByteArray) ++ ⟨(b0 :: B').toArray⟩) = ⟨(x.2.1 ++ 32 :: b0 :: B').toArray⟩ := by
                apply ByteArray.ext
                simp
              have HSB := Lib.hid hSB
              have hs1 : (⟨x.2.1.toArray⟩ : ByteArray).size ≤ 100001 := by show x.2.1.length ≤ _; omega
              have hB2 : B'.length + 1 ≤ 100000 := by
                have := hBl
                rw [List.length_cons] at this
                omega
              have hs2 : (⟨(b0 :: B').toArray⟩ : ByteArray).size ≤ 100000 := hB2
              have hs3 : ((⟨#[32]⟩ : ByteArray) ++ ⟨(b0 :: B').toArray⟩).size ≤ 100001 := by
                rw [ByteArray.size_append]
                show 1 + (B'.length + 1) ≤ _
                omega
              have hxl2 : x.2.1.length ≤ 100001 := hs1
              have hw2 : wrap64 (init.length : Int) = (init.length : Int) := wrap64_small _ (by omega)
              have hl0 : (0 : Int) ≤ (init.length : Int) := Int.natCast_nonneg _
              have hl2 : (init.length : Int) < (init.length : Int) + 1 := Int.lt_succ _
              have hl1 : (init.length : Int) < ((init.length + 1 : Nat) : Int) := Int.lt_succ _
              have HGL := Lib.hid (hgl.trans hil)
              have HXI := Lib.hid hil
              have HHB := Lib.hid hgB
              clear hcl hgl hix hset hSB hown3 hadd hxl hil hne
              go_wp2_with fail
              go_region
              go_wp2_with fail
              rw [HSB.out]
              go_roundg (ps.length - (i + 1))
              case rel =>
                have hs := HS.out
                refine ⟨i + 1, (goOn st.1 (b0 :: B'), true), by go_num, by omega, rfl, rfl, by rw [HLA.out, ← HST.out]; exact hs.symm, by show World.ownsRow _ _ _ _ _ (goOn st.1 (b0 :: B')).length _; rw [HGL.out]; exact HSET.out.drew, (HB3.out.setCell (p := ⟨g, init.length * 3 + 1, none⟩) HHB.out _).drew, by have := HSTP.out; rw [hs] at this; exact this, by have := HRA.out; omega, by have := HSM.out; rw [hs] at this; exact this, by have := HMN.out; rw [hs] at this; omega⟩
              case measure => have := HG.out; omega
    · have hik : i = ps.length := by omega
      subst hik
      have hst := HST.out
      rw [List.take_length] at hst
      have hLe : L = st.1 := by rw [HL.out, hst]
      subst hLe
      have hrow := GRow.of (C := sdC) (fun _ => rfl) HOWN.out
      have HR := Lib.hid hrow
      have HBF := Lib.hid (HB0.out.trans (HB.out.mono HB0.out.size))
      clear hrow hst
      go_wp2
      rw [Exit.noGoto_ret]
      go_ret
      exact ⟨_, rfl, HR.out, HBF.out⟩
end Go.Proofs.YtkoncmmbdlnmfaaGreatDoor
