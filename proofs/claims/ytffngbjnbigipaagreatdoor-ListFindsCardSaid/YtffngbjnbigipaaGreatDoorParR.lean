/- The document's Parse: the same answers as addr.Parse's, for texts of at most 10^9 bytes. -/
import Derived.Test.YtffngbjnbigipaaGreatDoorDomR
namespace Go.Proofs.YtffngbjnbigipaaGreatDoor
open Go.RowKit Go.Lib
set_option linter.unusedSimpArgs false
set_option linter.unusedVariables false
set_option linter.unnecessarySimpa false
set_option maxRecDepth 100000

theorem addr_var2 (w W : World) (x y : Value) (t : TypeId) (hb : Below (w.alloc (.cells #[x, y] t)).heap.size (w.alloc (.cells #[x, y] t)) W) :
    W.cell? ⟨w.heap.size, 0, none⟩ = some x ∧ W.cell? ⟨w.heap.size, 1, none⟩ = some y ∧ W.frozen? ⟨w.heap.size, 0, none⟩ = false ∧ W.frozen? ⟨w.heap.size, 1, none⟩ = false := by
  have h : W.heap[w.heap.size]? = some (.cells #[x, y] t (0, 0)) := by
    rw [hb.block w.heap.size (by rw [World.size_alloc]; exact Nat.lt_succ_self _)]
    exact heap_alloc_new w _
  simp [World.cell?, World.frozen?, h]
def AtRel (s : ByteArray) (w1 : World) (g : Nat) (v5 : Value) (W : World) : Prop :=
  ∃ i : Nat, v5 = .int .i64 (i : Int) ∧ i ≤ s.size ∧ g = s.size - i ∧ W = w1 ∧ ∀ j, j < i → s.data.toList[j]? ≠ some 64
theorem list_get (s : ByteArray) (i : Nat) (h : i < s.size) : s.data.toList[i]? = some s[i] := by
  have := drop_at s 0 i (Nat.zero_le _) h
  simpa using this
theorem tail_no (word : List UInt8) (c : UInt8) (d : List UInt8) (h : c ≠ 64) : tailL word (c :: d) = ([], [], 5) := by simp [tailL, h]
theorem tail_at (word d : List UInt8) : tailL word (64 :: d) = if domL d = 5 then ([], [], 5) else if domL d = 3 ∨ 64 < word.length then ([], [], 3) else (word, d, 0) := rfl

set_option maxHeartbeats 8000000 in
theorem Parse_ref (s : ByteArray) (hs : s.size ≤ 1000000000) (w : World) : Calls Tryz.prog 161 #[.string s] w fun e w' => e = .returned (parV (parseL s.data.toList)) ∧ Below w.heap.size w w' := by
  have hb0 : Below w.heap.size w (w.alloc (.cells #[.string ⟨#[]⟩, .string ⟨#[]⟩] 33)) := alloc_below w _
  generalize hwT : w.alloc (.cells #[.string ⟨#[]⟩, .string ⟨#[]⟩] 33) = w1 at hb0
  have hbX0 : Below (w.alloc (.cells #[.string ⟨#[]⟩, .string ⟨#[]⟩] 33)).heap.size (w.alloc (.cells #[.string ⟨#[]⟩, .string ⟨#[]⟩] 33)) w1 := by rw [hwT]; exact Below.refl _ _
  have hp : parseL s.data.toList = match headL s.data.toList with | none => ([], [], 5) | some (word, rest) => tailL word rest := rfl
  by_cases hne : s = ⟨#[]⟩
  · subst hne
    have HRR := Lib.hid (show parseL (⟨#[]⟩ : ByteArray).data.toList = ([], [], 5) from rfl)
    generalize parseL (⟨#[]⟩ : ByteArray).data.toList = R at HRR
    have HD := Lib.hid (DotAtom_ref ⟨#[]⟩ (by decide) w1)
    have e0 : dotGo (⟨#[]⟩ : ByteArray).data.toList true = false := rfl
    rw [e0] at HD
    obtain ⟨c0, c1, f0, f1⟩ := addr_var2 w w1 _ _ 33 hbX0
    clear hp e0
    go_enter Tryz.func161, Tryz.ntmps161
    go_wp2_with fail
    go_loopg [5] 0 (fun g v5 W => v5 = .int .i64 0 ∧ W = w1)
    case atStart => exact ⟨rfl, rfl⟩
    case round =>
      obtain ⟨rfl, rfl⟩ := hrel
      go_wp2_with fail
      refine HD.out.mono ?_
      rintro e w2 ⟨rfl, hw2⟩
      rw [hw2]
      clear hw2 w2
      go_wp2
      refine bodyPost_ret (v := .tuple #[.agg #[.string ⟨#[]⟩, .string ⟨#[]⟩], .int .i64 5]) (by rw [results_cell_tmp Tryz.results161]; simp [go_sem, set_same _ _ _ _ c0, set_first _ _ _ _ _ _ c0 c1]) rfl ⟨?_, ?_⟩
      · rw [HRR.out]; rfl
      · exact (hb0.setCell (p := ⟨w.heap.size, 0, none⟩) (Nat.le_refl _) _).setCell (p := ⟨w.heap.size, 1, none⟩) (Nat.le_refl _) _
  · have hpos := text_len hne
    have hpos0 : (0 : Int) < (s.size : Int) := by omega
    clear hne
    by_cases h34 : s[0] = 34
    · have q34 : ((s[0].toNat : Int) == 34) = true := by rw [h34]; rfl
      have hH : headL s.data.toList = if (quoted s.data.toList).2.2 = 0 ∧ (quoted s.data.toList).1 ≠ [] then some ((quoted s.data.toList).1, s.data.toList.drop (quoted s.data.toList).2.1) else none := by unfold headL; rw [if_pos (by rw [head_eq s hpos, h34])]
      rw [hH] at hp
      have hQ := Quoted_ref s (by omega) w1
      have hm := Quoted_many s
      have hwl := quoted_len s.data.toList
      rw [list_len] at hwl
      generalize quoted s.data.toList = Rq at hp hQ hm hwl
      obtain ⟨word, i, er⟩ := Rq
      simp only [quotV] at hQ
      simp only at hp hm hwl
      have hYs : (⟨word.toArray⟩ : ByteArray).size = word.length := rfl
      have hYe := empty_text word
      generalize hY : (⟨word.toArray⟩ : ByteArray) = Y at hQ hYs hYe
      have HY := Lib.hid hY.symm
      have HQ := Lib.hid hQ
      have HP := Lib.hid hp
      clear hY hQ hp hH h34
      generalize parseL s.data.toList = R at HP
      by_cases he : er = 0
      · subst he
        by_cases hx : word = []
        · have hie : Y.toList.isEmpty = true := by rw [hYe, hx]; rfl
          have hin : Y.toList = [] := by rw [hYe, hx]
          have HRR := Lib.hid (show R = ([], [], 5) from HP.out.trans (by rw [if_neg (by simp [hx])]))
          obtain ⟨c0, c1, f0, f1⟩ := addr_var2 w w1 _ _ 33 hbX0
          clear hYe hx
          go_enter Tryz.func161, Tryz.ntmps161
          go_wp2_with fail
          refine HQ.out.mono ?_
          rintro e w2 ⟨rfl, hw2⟩
          rw [hw2]
          clear hw2 w2
          go_wp2
          refine bodyPost_ret (v := .tuple #[.agg #[.string ⟨#[]⟩, .string ⟨#[]⟩], .int .i64 5]) (by rw [results_cell_tmp Tryz.results161]; simp [go_sem, set_same _ _ _ _ c0, set_first _ _ _ _ _ _ c0 c1]) rfl ⟨?_, ?_⟩
          · rw [HRR.out]; rfl
          · exact (hb0.setCell (p := ⟨w.heap.size, 0, none⟩) (Nat.le_refl _) _).setCell (p := ⟨w.heap.size, 1, none⟩) (Nat.le_refl _) _
        · have hie : Y.toList.isEmpty = false := by rw [hYe]; cases word with | nil => exact absurd rfl hx | cons a b => rfl
          have hin : ¬ Y.toList = [] := by rw [hYe]; exact hx
          have HT := Lib.hid (show R = tailL word (s.data.toList.drop i) from HP.out.trans (by rw [if_pos ⟨rfl, hx⟩]))
          have hi : i ≤ s.size := hm
          clear hYe hx
          go_enter Tryz.func161, Tryz.ntmps161
          go_wp2_with fail
          refine HQ.out.mono ?_
          rintro e wT ⟨rfl, hw2⟩
          have hbX : Below (w.alloc (.cells #[.string ⟨#[]⟩, .string ⟨#[]⟩] 33)).heap.size (w.alloc (.cells #[.string ⟨#[]⟩, .string ⟨#[]⟩] 33)) wT := by rw [hw2]; exact hbX0
          have hbT : Below w.heap.size w wT := by rw [hw2]; exact hb0
          clear hw2
          by_cases hat : i < s.size
          · have ia0 : (0 : Int) ≤ (i : Int) := by omega
            have ia1 : (i : Int) < (s.size : Int) := by omega
            have ia2 : ¬ (s.size : Int) ≤ (i : Int) := by omega
            have ht := HT.out
            rw [drop_cons s i hat] at ht
            by_cases h64 : s[i] = 64
            · have q64 : ((s[i].toNat : Int) != 64) = false := by rw [h64]; rfl
              have q64b : ((s[i].toNat : Int) == 64) = true := by rw [h64]; rfl
              rw [h64, tail_at] at ht
              have hwi : IntKind.i64.wrap ((i : Int) + 1) = (i : Int) + 1 := by rw [IntKind.wrap_i64]; omega
              have ia3 : (0 : Int) ≤ (i : Int) + 1 := by omega
              have ia4 : (i : Int) + 1 ≤ (s.size : Int) := by omega
              have ex := ext_drop s (i + 1)
              have hdl : (s.data.toList.drop (i + 1)).length ≤ 1000000000 := by rw [List.length_drop, list_len]; omega
              generalize s.data.toList.drop (i + 1) = d at ht ex hdl
              have hD := Domain_ref ⟨d.toArray⟩ hdl wT
              have e3 : (⟨d.toArray⟩ : ByteArray).data.toList = d := rfl
              rw [e3, ← ex] at hD
              have hdc := domL_cases d
              generalize domL d = k at hD ht hdc
              have HDom := Lib.hid hD
              have HEX := Lib.hid ex
              have HDC := Lib.hid hdc
              have HTT := Lib.hid ht
              clear hD ex e3 hdc ht h64
              go_wp2_with fail
              refine HDom.out.mono ?_
              rintro e w4 ⟨rfl, hb4⟩
              obtain ⟨c0, c1, f0, f1⟩ := addr_var2 w w4 _ _ 33 (hbX.trans (hb4.mono hbX.size))
              have hbw4 := hbT.trans (hb4.mono hbT.size)
              have hR0 := HTT.out
              rcases HDC.out with rfl | rfl | rfl
              · by_cases hw64 : 64 < word.length
                · have hw640 : (64 : Int) < (Y.size : Int) := by omega
                  rw [if_neg (by decide), if_pos (Or.inr hw64)] at hR0
                  have HRR := Lib.hid hR0
                  clear hR0
                  go_wp2
                  refine bodyPost_ret (v := .tuple #[.agg #[.string ⟨#[]⟩, .string ⟨#[]⟩], .int .i64 3]) (by rw [results_cell_tmp Tryz.results161]; simp [go_sem, set_same _ _ _ _ c0, set_first _ _ _ _ _ _ c0 c1]) rfl ⟨?_, ?_⟩
                  · rw [HRR.out]; rfl
                  · exact (hbw4.setCell (p := ⟨w.heap.size, 0, none⟩) (Nat.le_refl _) _).setCell (p := ⟨w.heap.size, 1, none⟩) (Nat.le_refl _) _
                · have hw640 : ¬ (64 : Int) < (Y.size : Int) := by omega
                  rw [if_neg (by decide), if_neg (by omega)] at hR0
                  have HRR := Lib.hid hR0
                  clear hR0
                  go_wp2
                  refine bodyPost_ret (v := .tuple #[.agg #[.string Y, .string (s.extract (i + 1) s.size)], .int .i64 0]) (by rw [results_cell_tmp Tryz.results161]; simp [go_sem, set_same _ _ _ _ c0, set_first _ _ _ _ _ _ c0 c1]) rfl ⟨?_, ?_⟩
                  · rw [HRR.out, HEX.out, HY.out]; rfl
                  · exact (hbw4.setCell (p := ⟨w.heap.size, 0, none⟩) (Nat.le_refl _) _).setCell (p := ⟨w.heap.size, 1, none⟩) (Nat.le_refl _) _
              · rw [if_neg (by decide), if_pos (Or.inl rfl)] at hR0
                have HRR := Lib.hid hR0
                clear hR0
                go_wp2
                refine bodyPost_ret (v := .tuple #[.agg #[.string ⟨#[]⟩, .string ⟨#[]⟩], .int .i64 3]) (by rw [results_cell_tmp Tryz.results161]; simp [go_sem, set_same _ _ _ _ c0, set_first _ _ _ _ _ _ c0 c1]) rfl ⟨?_, ?_⟩
                · rw [HRR.out]; rfl
                · exact (hbw4.setCell (p := ⟨w.heap.size, 0, none⟩) (Nat.le_refl _) _).setCell (p := ⟨w.heap.size, 1, none⟩) (Nat.le_refl _) _
              · rw [if_pos rfl] at hR0
                have HRR := Lib.hid hR0
                clear hR0
                go_wp2
                refine bodyPost_ret (v := .tuple #[.agg #[.string ⟨#[]⟩, .string ⟨#[]⟩], .int .i64 5]) (by rw [results_cell_tmp Tryz.results161]; simp [go_sem, set_same _ _ _ _ c0, set_first _ _ _ _ _ _ c0 c1]) rfl ⟨?_, ?_⟩
                · rw [HRR.out]; rfl
                · exact (hbw4.setCell (p := ⟨w.heap.size, 0, none⟩) (Nat.le_refl _) _).setCell (p := ⟨w.heap.size, 1, none⟩) (Nat.le_refl _) _
            · have q64 : ((s[i].toNat : Int) != 64) = true := by
                rw [bne_iff_ne]; intro e; exact h64 (UInt8.toNat_inj.1 (by show s[i].toNat = 64; omega))
              rw [tail_no word _ _ h64] at ht
              have HRR := Lib.hid ht
              clear ht h64
              obtain ⟨c0, c1, f0, f1⟩ := addr_var2 w wT _ _ 33 hbX
              go_wp2
              refine bodyPost_ret (v := .tuple #[.agg #[.string ⟨#[]⟩, .string ⟨#[]⟩], .int .i64 5]) (by rw [results_cell_tmp Tryz.results161]; simp [go_sem, set_same _ _ _ _ c0, set_first _ _ _ _ _ _ c0 c1]) rfl ⟨?_, ?_⟩
              · rw [HRR.out]; rfl
              · exact (hbT.setCell (p := ⟨w.heap.size, 0, none⟩) (Nat.le_refl _) _).setCell (p := ⟨w.heap.size, 1, none⟩) (Nat.le_refl _) _
          · have ia2 : (s.size : Int) ≤ (i : Int) := by omega
            have ia1 : ¬ (i : Int) < (s.size : Int) := by omega
            have hnil : s.data.toList.drop i = [] := List.drop_eq_nil_of_le (by rw [list_len]; omega)
            have ht := HT.out
            rw [hnil, tailL_nil] at ht
            have HRR := Lib.hid ht
            clear ht hnil
            obtain ⟨c0, c1, f0, f1⟩ := addr_var2 w wT _ _ 33 hbX
            go_wp2
            refine bodyPost_ret (v := .tuple #[.agg #[.string ⟨#[]⟩, .string ⟨#[]⟩], .int .i64 5]) (by rw [results_cell_tmp Tryz.results161]; simp [go_sem, set_same _ _ _ _ c0, set_first _ _ _ _ _ _ c0 c1]) rfl ⟨?_, ?_⟩
            · rw [HRR.out]; rfl
            · exact (hbT.setCell (p := ⟨w.heap.size, 0, none⟩) (Nat.le_refl _) _).setCell (p := ⟨w.heap.size, 1, none⟩) (Nat.le_refl _) _
      · have he0 : ((er : Int) != 0) = true := by rw [bne_iff_ne]; omega
        have HRR := Lib.hid (show R = ([], [], 5) from HP.out.trans (by rw [if_neg (by simp [he])]))
        obtain ⟨c0, c1, f0, f1⟩ := addr_var2 w w1 _ _ 33 hbX0
        clear hYe
        go_enter Tryz.func161, Tryz.ntmps161
        go_wp2_with fail
        refine HQ.out.mono ?_
        rintro e w2 ⟨rfl, hw2⟩
        rw [hw2]
        clear hw2 w2
        go_wp2
        refine bodyPost_ret (v := .tuple #[.agg #[.string ⟨#[]⟩, .string ⟨#[]⟩], .int .i64 5]) (by rw [results_cell_tmp Tryz.results161]; simp [go_sem, set_same _ _ _ _ c0, set_first _ _ _ _ _ _ c0 c1]) rfl ⟨?_, ?_⟩
        · rw [HRR.out]; rfl
        · exact (hb0.setCell (p := ⟨w.heap.size, 0, none⟩) (Nat.le_refl _) _).setCell (p := ⟨w.heap.size, 1, none⟩) (Nat.le_refl _) _
    · have q34 : ((s[0].toNat : Int) == 34) = false := byte_ne rfl h34
      have hH : headL s.data.toList = if dotGo (s.data.toList.takeWhile (· != 64)) true then some (s.data.toList.takeWhile (· != 64), s.data.toList.dropWhile (· != 64)) else none := by
        unfold headL
        rw [if_neg (by rw [head_eq s hpos]; intro e; exact h34 (Option.some.inj e))]
      rw [hH] at hp
      have HP := Lib.hid hp
      clear hp hH h34
      generalize parseL s.data.toList = R at HP
      go_enter Tryz.func161, Tryz.ntmps161
      go_wp2_with fail
      go_loopg [5] s.size (fun g v5 W => AtRel s w1 g v5 W)
      case atStart => exact ⟨0, rfl, by omega, by omega, rfl, by intro j hj; omega⟩
      case round =>
        obtain ⟨i, rfl, hi, hg, rfl, hno⟩ := hrel
        have HG := Lib.hid hg
        have HN := Lib.hid hno
        clear hg hno
        have hi0 : (0 : Int) ≤ (i : Int) := by omega
        have hi2 : (i : Int) ≤ (s.size : Int) := by omega
        have hwr : IntKind.i64.wrap ((i : Int) + 1) = (i : Int) + 1 := by rw [IntKind.wrap_i64]; omega
        have hstop : (i < s.size ∧ s.data.toList[i]? ≠ some 64) ∨ ((s.data.toList.takeWhile (· != 64) = s.data.toList.take i ∧ s.data.toList.dropWhile (· != 64) = s.data.toList.drop i) ∧ (i < s.size → s.data.toList[i]? = some 64)) := by
          by_cases hlt : i < s.size
          · by_cases h64 : s.data.toList[i]? = some 64
            · exact .inr ⟨while_take 64 _ i h64 HN.out, fun _ => h64⟩
            · exact .inl ⟨hlt, h64⟩
          · have hii : i = s.size := by omega
            subst hii
            refine .inr ⟨?_, fun h => absurd h hlt⟩
            rw [take_all, List.drop_eq_nil_of_le (by rw [list_len]; exact Nat.le_refl _)]
            refine while_none 64 _ (fun k hk => ?_)
            have hlen : k < s.data.toList.length := (List.getElem?_eq_some_iff.1 hk).1
            rw [list_len] at hlen
            exact HN.out k hlen hk
        rcases hstop with ⟨hlt, h64⟩ | ⟨⟨ht1, ht2⟩, h64⟩
        · have hi1 : (i : Int) < (s.size : Int) := by omega
          have q64 : ((s[i].toNat : Int) != 64) = true := by
            rw [list_get s i hlt] at h64
            rw [bne_iff_ne]; intro e; exact h64 (by rw [UInt8.toNat_inj.1 (show s[i].toNat = (64 : UInt8).toNat by show s[i].toNat = 64; omega)])
          have H64 := Lib.hid h64
          clear h64
          go_wp2_with fail
          go_roundg (s.size - (i + 1))
          case rel =>
            refine ⟨i + 1, by go_num, by omega, rfl, rfl, ?_⟩
            intro j hj
            rcases Nat.lt_succ_iff_lt_or_eq.1 hj with h | rfl
            · exact HN.out j h
            · exact H64.out
          case measure => have := HG.out; omega
        · have hp2 := HP.out
          rw [ht1, ht2] at hp2
          have e1 := ext_take s i
          have hwl : (s.data.toList.take i).length ≤ s.size := by rw [List.length_take, list_len]; omega
          have hD := DotAtom_ref ⟨(s.data.toList.take i).toArray⟩ (by show (s.data.toList.take i).length ≤ _; omega) wr
          have e3 : (⟨(s.data.toList.take i).toArray⟩ : ByteArray).data.toList = s.data.toList.take i := rfl
          rw [e3] at hD
          have hYs : (⟨(s.data.toList.take i).toArray⟩ : ByteArray).size = (s.data.toList.take i).length := rfl
          rw [← e1] at hD hYs
          generalize hword : s.data.toList.take i = word at *
          generalize hYY : s.extract 0 i = Y at *
          have HYX := Lib.hid hYY
          have HY := Lib.hid e1
          have HP2 := Lib.hid hp2
          generalize dotGo word true = Q at hD HP2
          clear ht1 ht2 hp2 e1 hword e3 hYY
          have hcond : (i < s.size ∧ ∀ h : i < s.size, s[i] = 64) ∨ i = s.size := by
            by_cases hlt : i < s.size
            · refine .inl ⟨hlt, fun h => ?_⟩
              have := h64 h
              rw [list_get s i h] at this
              exact Option.some.inj this
            · exact .inr (by omega)
          clear h64
          have hb1 := hbX0
          cases Q with
          | false =>
            have HRR := Lib.hid (show R = ([], [], 5) from HP2.out)
            obtain ⟨c0, c1, f0, f1⟩ := addr_var2 w wr _ _ 33 hb1
            rcases hcond with ⟨hlt, h64⟩ | hii
            · have hi1 : (i : Int) < (s.size : Int) := by omega
              have q64 : ((s[i].toNat : Int) != 64) = false := by rw [h64 hlt]; rfl
              have hYZ := HYX.out
              clear h64
              go_wp2_with fail
              refine hD.mono ?_
              rintro e w2 ⟨rfl, hw2⟩
              rw [hw2]
              clear hw2 w2
              go_wp2
              refine bodyPost_ret (v := .tuple #[.agg #[.string ⟨#[]⟩, .string ⟨#[]⟩], .int .i64 5]) (by rw [results_cell_tmp Tryz.results161]; simp [go_sem, set_same _ _ _ _ c0, set_first _ _ _ _ _ _ c0 c1]) rfl ⟨?_, ?_⟩
              · rw [HRR.out]; rfl
              · exact (hb0.setCell (p := ⟨w.heap.size, 0, none⟩) (Nat.le_refl _) _).setCell (p := ⟨w.heap.size, 1, none⟩) (Nat.le_refl _) _
            · have hi1 : ¬ (i : Int) < (s.size : Int) := by omega
              have hYZ := HYX.out
              clear hii
              go_wp2_with fail
              refine hD.mono ?_
              rintro e w2 ⟨rfl, hw2⟩
              rw [hw2]
              clear hw2 w2
              go_wp2
              refine bodyPost_ret (v := .tuple #[.agg #[.string ⟨#[]⟩, .string ⟨#[]⟩], .int .i64 5]) (by rw [results_cell_tmp Tryz.results161]; simp [go_sem, set_same _ _ _ _ c0, set_first _ _ _ _ _ _ c0 c1]) rfl ⟨?_, ?_⟩
              · rw [HRR.out]; rfl
              · exact (hb0.setCell (p := ⟨w.heap.size, 0, none⟩) (Nat.le_refl _) _).setCell (p := ⟨w.heap.size, 1, none⟩) (Nat.le_refl _) _
          | true =>
            have HT := Lib.hid (show R = tailL word (s.data.toList.drop i) from HP2.out)
            rcases hcond with ⟨hlt, h64⟩ | hii
            · have hi1 : (i : Int) < (s.size : Int) := by omega
              have q64 : ((s[i].toNat : Int) != 64) = false := by rw [h64 hlt]; rfl
              have hYZ := HYX.out
              have H64 := Lib.hid (h64 hlt)
              clear h64
              go_wp2_with fail
              refine hD.mono ?_
              rintro e wT ⟨rfl, hw2⟩
              have hbX : Below (w.alloc (.cells #[.string ⟨#[]⟩, .string ⟨#[]⟩] 33)).heap.size (w.alloc (.cells #[.string ⟨#[]⟩, .string ⟨#[]⟩] 33)) wT := by rw [hw2]; exact hb1
              have hbT : Below w.heap.size w wT := by rw [hw2]; exact hb0
              clear hw2 hYZ
              by_cases hat : i < s.size
              · have ia0 : (0 : Int) ≤ (i : Int) := by omega
                have ia1 : (i : Int) < (s.size : Int) := by omega
                have ia2 : ¬ (s.size : Int) ≤ (i : Int) := by omega
                have ht := HT.out
                rw [drop_cons s i hat] at ht
                by_cases h64 : s[i] = 64
                · have q64 : ((s[i].toNat : Int) != 64) = false := by rw [h64]; rfl
                  have q64b : ((s[i].toNat : Int) == 64) = true := by rw [h64]; rfl
                  rw [h64, tail_at] at ht
                  have hwi : IntKind.i64.wrap ((i : Int) + 1) = (i : Int) + 1 := by rw [IntKind.wrap_i64]; omega
                  have ia3 : (0 : Int) ≤ (i : Int) + 1 := by omega
                  have ia4 : (i : Int) + 1 ≤ (s.size : Int) := by omega
                  have ex := ext_drop s (i + 1)
                  have hdl : (s.data.toList.drop (i + 1)).length ≤ 1000000000 := by rw [List.length_drop, list_len]; omega
                  generalize s.data.toList.drop (i + 1) = d at ht ex hdl
                  have hD := Domain_ref ⟨d.toArray⟩ hdl wT
                  have e3 : (⟨d.toArray⟩ : ByteArray).data.toList = d := rfl
                  rw [e3, ← ex] at hD
                  have hdc := domL_cases d
                  generalize domL d = k at hD ht hdc
                  have HDom := Lib.hid hD
                  have HEX := Lib.hid ex
                  have HDC := Lib.hid hdc
                  have HTT := Lib.hid ht
                  clear hD ex e3 hdc ht h64
                  go_wp2_with fail
                  refine HDom.out.mono ?_
                  rintro e w4 ⟨rfl, hb4⟩
                  obtain ⟨c0, c1, f0, f1⟩ := addr_var2 w w4 _ _ 33 (hbX.trans (hb4.mono hbX.size))
                  have hbw4 := hbT.trans (hb4.mono hbT.size)
                  have hR0 := HTT.out
                  rcases HDC.out with rfl | rfl | rfl
                  · by_cases hw64 : 64 < word.length
                    · have hw640 : (64 : Int) < (Y.size : Int) := by omega
                      rw [if_neg (by decide), if_pos (Or.inr hw64)] at hR0
                      have HRR := Lib.hid hR0
                      clear hR0
                      go_wp2
                      refine bodyPost_ret (v := .tuple #[.agg #[.string ⟨#[]⟩, .string ⟨#[]⟩], .int .i64 3]) (by rw [results_cell_tmp Tryz.results161]; simp [go_sem, set_same _ _ _ _ c0, set_first _ _ _ _ _ _ c0 c1]) rfl ⟨?_, ?_⟩
                      · rw [HRR.out]; rfl
                      · exact (hbw4.setCell (p := ⟨w.heap.size, 0, none⟩) (Nat.le_refl _) _).setCell (p := ⟨w.heap.size, 1, none⟩) (Nat.le_refl _) _
                    · have hw640 : ¬ (64 : Int) < (Y.size : Int) := by omega
                      rw [if_neg (by decide), if_neg (by omega)] at hR0
                      have HRR := Lib.hid hR0
                      clear hR0
                      go_wp2
                      refine bodyPost_ret (v := .tuple #[.agg #[.string Y, .string (s.extract (i + 1) s.size)], .int .i64 0]) (by rw [results_cell_tmp Tryz.results161]; simp [go_sem, set_same _ _ _ _ c0, set_first _ _ _ _ _ _ c0 c1]) rfl ⟨?_, ?_⟩
                      · rw [HRR.out, HEX.out, HY.out]; rfl
                      · exact (hbw4.setCell (p := ⟨w.heap.size, 0, none⟩) (Nat.le_refl _) _).setCell (p := ⟨w.heap.size, 1, none⟩) (Nat.le_refl _) _
                  · rw [if_neg (by decide), if_pos (Or.inl rfl)] at hR0
                    have HRR := Lib.hid hR0
                    clear hR0
                    go_wp2
                    refine bodyPost_ret (v := .tuple #[.agg #[.string ⟨#[]⟩, .string ⟨#[]⟩], .int .i64 3]) (by rw [results_cell_tmp Tryz.results161]; simp [go_sem, set_same _ _ _ _ c0, set_first _ _ _ _ _ _ c0 c1]) rfl ⟨?_, ?_⟩
                    · rw [HRR.out]; rfl
                    · exact (hbw4.setCell (p := ⟨w.heap.size, 0, none⟩) (Nat.le_refl _) _).setCell (p := ⟨w.heap.size, 1, none⟩) (Nat.le_refl _) _
                  · rw [if_pos rfl] at hR0
                    have HRR := Lib.hid hR0
                    clear hR0
                    go_wp2
                    refine bodyPost_ret (v := .tuple #[.agg #[.string ⟨#[]⟩, .string ⟨#[]⟩], .int .i64 5]) (by rw [results_cell_tmp Tryz.results161]; simp [go_sem, set_same _ _ _ _ c0, set_first _ _ _ _ _ _ c0 c1]) rfl ⟨?_, ?_⟩
                    · rw [HRR.out]; rfl
                    · exact (hbw4.setCell (p := ⟨w.heap.size, 0, none⟩) (Nat.le_refl _) _).setCell (p := ⟨w.heap.size, 1, none⟩) (Nat.le_refl _) _
                · exact absurd H64.out h64
              · exact absurd hlt hat
            · have hi1 : ¬ (i : Int) < (s.size : Int) := by omega
              have hYZ := HYX.out
              clear hii
              go_wp2_with fail
              refine hD.mono ?_
              rintro e wT ⟨rfl, hw2⟩
              have hbX : Below (w.alloc (.cells #[.string ⟨#[]⟩, .string ⟨#[]⟩] 33)).heap.size (w.alloc (.cells #[.string ⟨#[]⟩, .string ⟨#[]⟩] 33)) wT := by rw [hw2]; exact hb1
              have hbT : Below w.heap.size w wT := by rw [hw2]; exact hb0
              clear hw2 hYZ
              by_cases hat : i < s.size
              · exfalso; omega
              · have ia2 : (s.size : Int) ≤ (i : Int) := by omega
                have ia1 : ¬ (i : Int) < (s.size : Int) := by omega
                have hnil : s.data.toList.drop i = [] := List.drop_eq_nil_of_le (by rw [list_len]; omega)
                have ht := HT.out
                rw [hnil, tailL_nil] at ht
                have HRR := Lib.hid ht
                clear ht hnil
                obtain ⟨c0, c1, f0, f1⟩ := addr_var2 w wT _ _ 33 hbX
                go_wp2
                refine bodyPost_ret (v := .tuple #[.agg #[.string ⟨#[]⟩, .string ⟨#[]⟩], .int .i64 5]) (by rw [results_cell_tmp Tryz.results161]; simp [go_sem, set_same _ _ _ _ c0, set_first _ _ _ _ _ _ c0 c1]) rfl ⟨?_, ?_⟩
                · rw [HRR.out]; rfl
                · exact (hbT.setCell (p := ⟨w.heap.size, 0, none⟩) (Nat.le_refl _) _).setCell (p := ⟨w.heap.size, 1, none⟩) (Nat.le_refl _) _
end Go.Proofs.YtffngbjnbigipaaGreatDoor
