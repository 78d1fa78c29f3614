/- lines.Parse: what it hands back. -/
import Derived.Test.YtkoncmmbdlnmfaaGreatDoorLinH
namespace Go.Proofs.YtkoncmmbdlnmfaaGreatDoor
open Go.RowKit Go.Lib
set_option linter.unusedSimpArgs false
set_option linter.unusedVariables false
set_option linter.unnecessarySimpa false
set_option maxRecDepth 100000

theorem Three.grown {B : Nat} {x y z : Value} {w W : World} {row : Option Nat} (h : Three B x y z w) (hg : w.grownBy W row) (hr : some B ≠ row) : Three B x y z W := by
  have hh := hg.block B h.lt hr
  exact ⟨Nat.lt_of_lt_of_le h.lt hg.size, (World.cell?_of_block (w := w) hh).trans h.c0, (World.cell?_of_block (w := w) hh).trans h.c1, (World.cell?_of_block (w := w) hh).trans h.c2,
    (World.frozen?_of_block (w := w) hh).trans h.f0, (World.frozen?_of_block (w := w) hh).trans h.f1, (World.frozen?_of_block (w := w) hh).trans h.f2⟩
theorem cells2' (w : World) (a b : Value) (t : TypeId) : ∀ (j : Nat) (u : Value), [a, b][j]? = some u → (w.alloc (.cells #[a, b] t)).cell? ⟨w.heap.size, j, none⟩ = some u := by
  intro j u h
  match j, h with
  | 0, h => simp at h; subst h; simp
  | 1, h => simp at h; subst h; simp
  | n + 2, h => simp at h
theorem own_slice {w : World} {B e k n : Nat} {v : Value} {xs : List Value} (h : w.ownsRow B e k v n xs) : ∃ p c, v = .slice p n c := by
  obtain ⟨_, ⟨rfl, rfl⟩ | ⟨g', cap', cur, rfl, _⟩⟩ := h
  · exact ⟨_, _, rfl⟩
  · exact ⟨_, _, rfl⟩
def seenF (st : Es) (k : List UInt8) : Bool := st.1.any fun y => lowL y.2 == k
/-- what stands at the head of Parse's loop. -/
structure PrsAt (mb : Nat) (w2 : World) (st : Es) (v6 v7 : Value) (W : World) : Prop where
  l : W.ownsRow w2.heap.size 85 3 v6 st.1.length (st.1.flatMap enC)
  f : W.ownsRow w2.heap.size 81 2 v7 st.2.length (st.2.flatMap faC)
  m : ∃ D : DataW Unit, W.ownsMap Tryz.prog 9 (plainElem Tryz.prog 3) mb st.1.length D ∧ KeysD D (seenF st)
  s : Save mb w2 W
def PrsRel (L : List Sd) (mb : Nat) (w2 : World) (g : Nat) (v6 v7 v23 : Value) (W : World) : Prop :=
  ∃ (i : Nat) (st : Es), v23 = .int .i64 (i : Int) ∧ i ≤ L.length ∧ g = L.length - i ∧ st = entGo (L.take i) ([], []) ∧ PrsAt mb w2 st v6 v7 W ∧ st.1.length ≤ 64 ∧ st.2.length ≤ i
theorem PrsAt.below {mb : Nat} {w2 : World} {st : Es} {v6 v7 : Value} {w W : World} (h : PrsAt mb w2 st v6 v7 w) (hb : Below w.heap.size w W) : PrsAt mb w2 st v6 v7 W := by
  obtain ⟨h1, h2, ⟨D, h3, h4⟩, h5⟩ := h
  exact ⟨own_low h1 hb, own_low h2 hb, ⟨D, map_low h3 hb, h4⟩, h5.below hb⟩
/-- a fault more. -/
theorem PrsAt.fault {mb : Nat} {w2 : World} {st : Es} {v6 v7 : Value} {w W : World} (h : PrsAt mb w2 st v6 v7 w) (hmb : mb < w2.heap.size) (x : Nat × Nat) {g cap : Nat}
    (hown : W.ownsRow w2.heap.size 81 2 (.slice (some ⟨g, 0, none⟩) (st.2.length + 1) cap) (st.2.length + 1) (st.2.flatMap faC ++ faC x)) (hg : w.grownBy W v7.ownBlock) :
    PrsAt mb w2 (st.1, st.2 ++ [x]) v6 (.slice (some ⟨g, 0, none⟩) (st.2.length + 1) cap) W := by
  obtain ⟨h1, h2, ⟨D, h3, h4⟩, h5⟩ := h
  have hge := own_ge h2
  refine ⟨h1.kept hg ((own_apart h2 h1 (by decide)).imp id Ne.symm), ?_, ⟨D, h3.kept hg ?_, h4⟩, h5.grown hg (fun g hg => .inr (hge g hg))⟩
  · rw [List.length_append, flat_snoc]; exact hown
  · intro e
    have := hge mb e.symm
    omega
/-- an entry more, its key in the map. -/
theorem PrsAt.entry {mb : Nat} {w2 : World} {st : Es} {v6 v7 : Value} {w W W' : World} {D : DataW Unit} (h1 : w.ownsRow w2.heap.size 85 3 v6 st.1.length (st.1.flatMap enC)) (h2 : w.ownsRow w2.heap.size 81 2 v7 st.2.length (st.2.flatMap faC))
    (h4 : KeysD D (seenF st)) (hD : Maps.IsMap D) (h5 : Save mb w2 w) (hmb : mb < w2.heap.size) (x : Nat × List UInt8)
    (hm : W.ownsMap Tryz.prog 9 (plainElem Tryz.prog 3) mb (st.1.length + 1) (D.put (.string (lowL x.2)) (.lit (.int .i64 1)))) (hg : w.grownBy W (some mb)) :
    W.ownsRow w2.heap.size 85 3 v6 st.1.length (st.1.flatMap enC) ∧ ∀ {o : Obj} {g cap : Nat}, W'.ownsRow w2.heap.size 85 3 (.slice (some ⟨g, 0, none⟩) (st.1.length + 1) cap) (st.1.length + 1) (st.1.flatMap enC ++ enC x) → (W.alloc o).grownBy W' v6.ownBlock →
      PrsAt mb w2 (st.1 ++ [x], st.2) (.slice (some ⟨g, 0, none⟩) (st.1.length + 1) cap) v7 W' := by
  have hge := own_ge h1
  have hge2 := own_ge h2
  have l1 := h1.kept hg (by
    cases hv : v6.ownBlock with
    | none => exact .inl rfl
    | some g => exact .inr (fun e => by injection e with e; subst e; have := hge g hv; omega))
  have f1 := h2.kept hg (by
    cases hv : v7.ownBlock with
    | none => exact .inl rfl
    | some g => exact .inr (fun e => by injection e with e; subst e; have := hge2 g hv; omega))
  have s1 := h5.grown hg (fun g hg => by injection hg with hg; exact .inl hg.symm)
  refine ⟨l1, fun {o g cap} hown hg' => ⟨?_, ?_, ⟨D.put (.string (lowL x.2)) (.lit (.int .i64 1)), ?_, ?_⟩, ?_⟩⟩
  · rw [List.length_append, flat_snoc]; exact hown
  · exact (f1.alloc o).kept hg' ((own_apart (l1.alloc o) (f1.alloc o) (by decide)).imp id Ne.symm)
  · show W'.ownsMap _ _ _ mb (st.1 ++ [x]).length _
    rw [List.length_append]
    refine (hm.alloc o).kept hg' ?_
    intro e
    have := hge mb e.symm
    omega
  · refine h4.put hD _ (fun k => ?_)
    unfold seenF
    rw [List.any_append]
    congr 1
    simp only [List.any_cons, List.any_nil, Bool.or_false]
    rw [Bool.eq_iff_iff, beq_iff_eq, beq_iff_eq]
    exact eq_comm
  · exact (s1.below (alloc_below W o)).grown hg' (fun g hg => .inr (hge g hg))
set_option maxHeartbeats 16000000 in
theorem Lines_any (s : ByteArray) (hs : s.size ≤ 8192) (w : World) (hE : Env w) :
    Calls Tryz.prog 37 #[.string s, .bool false] w fun e w' => ∃ v1 v2, e = .returned (.tuple #[v1, v2]) ∧ GRow 3 enC w' v1 (linesL s.data.toList).1 ∧ GRow 2 faC w' v2 (linesL s.data.toList).2 ∧ Below w.heap.size w w' := by
  have hmm := @run_makeMap Tryz.prog
  have hb0 := alloc_below w (.map #[] 0)
  have hm0 := World.ownsMap_made (H := Unit) w Tryz.prog 9 (plainElem Tryz.prog 3)
  have HLG := Lib.hid (logical_any s (by omega) _ (hE.below hb0))
  have hll := logical_len s.data.toList
  have hlc := logical_count s.data.toList
  rw [list_len] at hll hlc
  have hLL : linesL s.data.toList = entGo (logicalL s.data.toList) ([], []) := by
    unfold linesL
    rw [if_neg (by rw [list_len]; omega)]
  rw [hLL]
  clear hLL hE
  generalize logicalL s.data.toList = L at HLG hll hlc ⊢
  have HB0 := Lib.hid hb0
  have HM0 := Lib.hid hm0
  have HLL := Lib.hid hll
  clear hb0 hm0 hll
  go_enter Tryz.func37, Tryz.ntmps37
  go_wp2_with fail
  refine HLG.out.mono ?_
  rintro e w2 ⟨v, rfl, hrow, hb2⟩
  have HROW := Lib.hid hrow
  have HB2 := Lib.hid (HB0.out.trans (hb2.mono HB0.out.size))
  have HM2 := Lib.hid (map_low HM0.out hb2)
  have hmb : w.heap.size < w2.heap.size := HM2.out.lt
  obtain ⟨p, cap, rfl, -⟩ := hrow
  clear hb2
  go_wp2_with fail
  go_loopg [6, 7, 23] L.length (fun g v6 v7 v23 W => PrsRel L w.heap.size w2 g v6 v7 v23 W)
  case atStart => exact ⟨0, ([], []), rfl, Nat.zero_le _, rfl, rfl, ⟨World.ownsRow_nil _ _ _ _, World.ownsRow_nil _ _ _ _, ⟨_, HM2.out, KeysD.start⟩, Save.refl _ _⟩, Nat.zero_le _, Nat.le_refl _⟩
  case round =>
    obtain ⟨i, st, rfl, hi, hg, hst, hat, hc1, hc2⟩ := hrel
    have HG := Lib.hid hg
    have HST := Lib.hid hst
    have HAT := Lib.hid hat
    have HC := Lib.hid (show st.1.length ≤ 64 ∧ st.2.length ≤ i from ⟨hc1, hc2⟩)
    clear hg hst hat hc1 hc2
    by_cases hlt : i < L.length
    · have hi0 : (0 : Int) ≤ (i : Int) := by omega
      have hi1 : (i : Int) < (L.length : Int) := by omega
      have hwk : IntKind.i64.wrap ((i : Int) + 1) = (i : Int) + 1 := by rw [IntKind.wrap_i64]; omega
      have hx := List.getElem?_eq_getElem hlt
      obtain ⟨X, hX⟩ : ∃ X, L[i] = X := ⟨_, rfl⟩
      rw [hX] at hx
      have hxl := HLL.out X (by rw [← hX]; exact List.getElem_mem hlt)
      have HEA := Lib.hid (ent_at hx)
      have HEO := Lib.hid (ent_ok st X)
      have hr := Save.grow (k := 3) (C := sdC) (fun _ => by simp [sdC]) HROW.out HAT.out.s (map_cells HM2.out)
      obtain ⟨p', cap', he, h⟩ := hr
      obtain rfl : cap = cap' := by injection he
      obtain rfl : p = p' := by injection he
      obtain ⟨b, o, hpb, hc⟩ := grow_at h hlt
      subst hpb
      clear he h
      have c0 := hc i X hx 0 _ rfl
      have c1 := hc i X hx 1 _ rfl
      have c2 := hc i X hx 2 _ rfl
      rw [Nat.add_zero] at c0
      clear hc hX hx
      obtain ⟨k, t, al⟩ := X
      simp only at hxl HEO c0 c1 c2
      have HEN := Lib.hid (fun W => entry_any (k, t, al) (by show t.length ≤ _; omega) W)
      simp only [sdC] at HEN
      have HT0 := Lib.hid (Three.made wr (.int .i64 (k : Int)) (.string ⟨t.toArray⟩) (.bool al) 148)
      have HA1 := Lib.hid (HAT.out.below (alloc_below wr (.cells #[.int .i64 (k : Int), .string ⟨t.toArray⟩, .bool al] 148)))
      go_wp2_with fail
      refine (HEN.out _).mono ?_
      rintro e w3 ⟨hep, hb3⟩
      have HT3 := Lib.hid (HT0.out.below hb3)
      have HA3 := Lib.hid (HA1.out.below hb3)
      clear hb3
      cases hok : entOk (k, t, al) with
      | false =>
        unfold EntP at hep
        rw [hok, if_neg (by simp)] at hep
        subst hep
        have hs : entStep st (k, t, al) = (st.1, st.2 ++ [(k, 5)]) := by rw [HEO.out, hok, if_pos rfl]
        have HS := Lib.hid hs
        have HTL := Lib.hid (fun W => Tryz.strings_ToLower_ascii ⟨#[]⟩ W (by decide) (by intro j b h; simp at h))
        have HT4 := Lib.hid (HT3.out.below (alloc_below w3 (.cells #[.int .i64 0, .string ⟨#[]⟩, .slice none 0 0] 85)))
        have HA4 := Lib.hid (HA3.out.below (alloc_below w3 (.cells #[.int .i64 0, .string ⟨#[]⟩, .slice none 0 0] 85)))
        clear hs hok
        simp only [enC]
        go_wp2_with fail
        refine (HTL.out _).mono ?_
        rintro e w5 ⟨rfl, hb5⟩
        have HA5 := Lib.hid (HA4.out.below hb5)
        have hbs := HA5.out.s.size
        obtain ⟨-, a0, a1, a2, -, -, -⟩ := HT4.out.below hb5
        clear hb5
        have hfl := HC.out.2
        go_wp2_with (first | (at_builtin; refine app_gen rfl _ _ 76 81 2 16 (.agg #[.int .i64 0, .int .i64 0]) Tryz.underlying76 info81 rfl (by decide) (by decide) rfl w2.heap.size _ _ _ rfl (World.ownsRow.alloc (w := w5) HA5.out.f _) w5.heap.size 1 [.int .i64 (k : Int), .int .i64 5] rfl rfl (cells2' _ _ _ _) (by intro u hu; simp at hu; rcases hu with rfl | rfl <;> rfl) (by omega) (by rw [World.size_alloc]; exact Nat.le_succ_of_le hbs) ?_; intro g' cap' w6 hown6 hgr hat6) | fail)
        go_roundg (L.length - (i + 1))
        case rel =>
          exact ⟨i + 1, (st.1, st.2 ++ [(k, 5)]), by go_num, by omega, rfl, by rw [HEA.out, ← HST.out]; exact HS.out.symm, (HA5.out.below (alloc_below w5 _)).fault hmb (k, 5) hown6 hgr, HC.out.1, by have := HC.out.2; rw [List.length_append, List.length_singleton]; omega⟩
        case measure => have := HG.out; omega
      | true =>
        unfold EntP at hep
        rw [hok, if_pos rfl] at hep
        subst hep
        have hEO := HEO.out
        rw [hok, if_neg (by simp)] at hEO
        have hpr : printL t = true ∧ al = false := by
          unfold entOk at hok
          simp only [Bool.and_eq_true, Bool.not_eq_true'] at hok
          exact ⟨hok.1.2, hok.1.1⟩
        have HTL := Lib.hid (fun W => Tryz.strings_ToLower_ascii ⟨t.toArray⟩ W (by show t.length ≤ _; omega) (print_ascii hpr.1))
        rw [show (⟨t.toArray⟩ : ByteArray).data.toList = t from rfl, lower_low] at HTL
        have HT4 := Lib.hid (HT3.out.below (alloc_below w3 (.cells #[.int .i64 (k : Int), .string ⟨t.toArray⟩, .slice none 0 0] 85)))
        have HE4 := Lib.hid (Three.made w3 (.int .i64 (k : Int)) (.string ⟨t.toArray⟩) (.slice none 0 0) 85)
        have HA4 := Lib.hid (HA3.out.below (alloc_below w3 (.cells #[.int .i64 (k : Int), .string ⟨t.toArray⟩, .slice none 0 0] 85)))
        have HSZ := Lib.hid HA3.out.s.size
        clear hok hpr
        simp only [enC]
        go_wp2_with fail
        refine (HTL.out _).mono ?_
        rintro e w5 ⟨rfl, hb5⟩
        have HA5 := Lib.hid (HA4.out.below hb5)
        have hbs := HA5.out.s.size
        have HE5 := Lib.hid (HE4.out.below hb5)
        obtain ⟨-, a0, a1, a2, -, -, -⟩ := HT4.out.below hb5
        clear hb5
        have hfl := HC.out.2
        have hll2 := HC.out.1
        obtain ⟨hl, hf, ⟨D, hm, hk⟩, hsv⟩ := HA5.out
        obtain ⟨pl, capl, rfl⟩ := own_slice hl
        have HEO2 := Lib.hid hEO
        clear hEO
        by_cases h64 : 64 ≤ st.1.length
        · have hs := HEO2.out
          rw [if_pos h64] at hs
          have HS := Lib.hid hs
          have h64i : (64 : Int) ≤ (st.1.length : Int) := by omega
          clear hs hl hf hm hk hsv
          go_wp2_with (first | (at_builtin; refine app_gen rfl _ _ 76 81 2 16 (.agg #[.int .i64 0, .int .i64 0]) Tryz.underlying76 info81 rfl (by decide) (by decide) rfl w2.heap.size _ _ _ rfl (World.ownsRow.alloc (w := w5) HA5.out.f _) w5.heap.size 1 [.int .i64 (k : Int), .int .i64 7] rfl rfl (cells2' _ _ _ _) (by intro u hu; simp at hu; rcases hu with rfl | rfl <;> rfl) (by omega) (by rw [World.size_alloc]; exact Nat.le_succ_of_le hbs) ?_; intro g' cap' w6 hown6 hgr hat6) | fail)
          go_roundg (L.length - (i + 1))
          case rel =>
            exact ⟨i + 1, (st.1, st.2 ++ [(k, 7)]), by go_num, by omega, rfl, by rw [HEA.out, ← HST.out]; exact HS.out.symm, (HA5.out.below (alloc_below w5 _)).fault hmb (k, 7) hown6 hgr, HC.out.1, by have := HC.out.2; rw [List.length_append, List.length_singleton]; omega⟩
          case measure => have := HG.out; omega
        · have h64i : ¬ (64 : Int) ≤ (st.1.length : Int) := by omega
          have hEO := HEO2.out
          rw [if_neg h64] at hEO
          have hkey : keyOf Tryz.prog 9 (.string ⟨(lowL t).toArray⟩) = some (.string (lowL t)) := Go.WideMaps.keyOf_string_mk Tryz.underlying9 (s := ⟨(lowL t).toArray⟩) (by show (lowL t).length ≤ maxLen; rw [lowL_len]; unfold maxLen; omega)
          obtain ⟨c, hrun, hat, hwc⟩ := hm.lookup_int law9 Tryz.underlying44 Tryz.underlying3 (zero3 _) hkey
          rw [hk (lowL t)] at hat
          have hc := (Lit.int.inj (DataW.lit.inj hat)).2
          have HKEY := Lib.hid hkey
          clear hat hwc hkey
          by_cases hsn : seenF st (lowL t) = true
          · have hs : entStep st (k, t, al) = (st.1, st.2 ++ [(k, 9)]) := by rw [hEO]; exact if_pos hsn
            rw [if_pos hsn] at hc
            subst hc
            have HS := Lib.hid hs
            clear hs hEO hl hf hm hk hsv hsn
            go_wp2_with (first | (at_builtin; refine app_gen rfl _ _ 76 81 2 16 (.agg #[.int .i64 0, .int .i64 0]) Tryz.underlying76 info81 rfl (by decide) (by decide) rfl w2.heap.size _ _ _ rfl (World.ownsRow.alloc (w := w5) HA5.out.f _) w5.heap.size 1 [.int .i64 (k : Int), .int .i64 9] rfl rfl (cells2' _ _ _ _) (by intro u hu; simp at hu; rcases hu with rfl | rfl <;> rfl) (by omega) (by rw [World.size_alloc]; exact Nat.le_succ_of_le hbs) ?_; intro g' cap' w6 hown6 hgr hat6) | fail)
            go_roundg (L.length - (i + 1))
            case rel =>
              exact ⟨i + 1, (st.1, st.2 ++ [(k, 9)]), by go_num, by omega, rfl, by rw [HEA.out, ← HST.out]; exact HS.out.symm, (HA5.out.below (alloc_below w5 _)).fault hmb (k, 9) hown6 hgr, HC.out.1, by have := HC.out.2; rw [List.length_append, List.length_singleton]; omega⟩
            case measure => have := HG.out; omega
          · have hs : entStep st (k, t, al) = (st.1 ++ [(k, t)], st.2) := by rw [hEO]; exact if_neg hsn
            rw [if_neg hsn] at hc
            subst hc
            have HS := Lib.hid hs
            have HL5 := Lib.hid hl
            have HF5 := Lib.hid hf
            have HK5 := Lib.hid hk
            have HM5 := Lib.hid hm
            have hD := own_isMap hm
            have HSV := Lib.hid hsv
            clear hs hEO hl hf hk hsv hsn
            go_wp2_with (first
              | (at_mapUpdate; refine wpList_mapUpdate_own _ rfl _ _ _ 44 rfl 9 3 law9 Tryz.underlying44 _ w.heap.size st.1.length D rfl HM5.out (by unfold maxLen; omega) _ _ _ rfl rfl HKEY.out _ [] (plainElem_int Tryz.underlying3 (by decide)) ?_; intro w6 hown6 hgr6; have hE6 := HE5.out.grown hgr6 (fun e => by injection e with e; have := HSZ.out; omega); obtain ⟨-, d0, d1, d2, -, -, -⟩ := hE6; have hP6 := PrsAt.entry (W' := w6) HL5.out HF5.out HK5.out hD HSV.out hmb (k, t) hown6 hgr6; have HL6 := Lib.hid hP6.1; have hbs6 := Nat.le_trans hbs hgr6.size; clear hP6)
              | (at_builtin; refine app_gen rfl _ _ 75 85 3 48 (.agg #[.int .i64 0, .string ⟨#[]⟩, .slice none 0 0]) Tryz.underlying75 info85 rfl (by decide) (by decide) rfl w2.heap.size _ _ _ rfl (World.ownsRow.alloc (w := w6) HL6.out _) w6.heap.size 1 [.int .i64 (k : Int), .string ⟨t.toArray⟩, .slice none 0 0] rfl rfl (cells3 _ _ _ _ _) (by intro u hu; simp at hu; rcases hu with rfl | rfl | rfl <;> rfl) (by omega) (by rw [World.size_alloc]; exact Nat.le_succ_of_le hbs6) ?_; intro g' cap' w7 hown7 hgr7 hat7)
              | fail)
            go_roundg (L.length - (i + 1))
            case rel =>
              have hP := (PrsAt.entry (W' := w7) HL5.out HF5.out HK5.out hD HSV.out hmb (k, t) hown6 hgr6).2 hown7 hgr7
              exact ⟨i + 1, (st.1 ++ [(k, t)], st.2), by go_num, by omega, rfl, by rw [HEA.out, ← HST.out]; exact HS.out.symm, hP, by rw [List.length_append, List.length_singleton]; omega, by have := HC.out.2; show st.2.length ≤ _; omega⟩
            case measure => have := HG.out; omega
    · have hik : i = L.length := by omega
      subst hik
      have hst := HST.out
      rw [List.take_length] at hst
      subst hst
      have hl := GRow.of (C := enC) (fun _ => rfl) HAT.out.l
      have hf := GRow.of (C := faC) (fun _ => rfl) HAT.out.f
      have hb := HAT.out.s.low (B := w.heap.size) (Nat.le_refl _) (Nat.le_of_lt hmb)
      have HR := Lib.hid (show _ ∧ _ ∧ _ from ⟨hl, hf, HB2.out.trans hb⟩)
      clear hl hf hb
      go_wp2
      go_ret2
      exact ⟨_, _, rfl, HR.out.1, HR.out.2.1, HR.out.2.2⟩
end Go.Proofs.YtkoncmmbdlnmfaaGreatDoor
