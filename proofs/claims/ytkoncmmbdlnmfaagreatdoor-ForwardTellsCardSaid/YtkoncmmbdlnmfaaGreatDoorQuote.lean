/- text.Quote, and addr.Text of any address, for texts of at most 10^9 bytes, where the package-level variables read as their texts lay them. -/
import Derived.Test.YtkoncmmbdlnmfaaGreatDoorMay
namespace Go.Proofs.YtkoncmmbdlnmfaaGreatDoor
open Go.RowKit Go.Lib
set_option linter.unusedSimpArgs false
set_option linter.unusedVariables false
set_option linter.unnecessarySimpa false
set_option maxRecDepth 100000

def escB (b : UInt8) : List UInt8 := if b.toNat = 34 ∨ b.toNat = 92 then [92, b] else [b]
def escL (l : List UInt8) : List UInt8 := l.flatMap escB
def quoteL (l : List UInt8) : List UInt8 := 34 :: (escL l ++ [34])
theorem esc_snoc (l : List UInt8) (b : UInt8) : escL (l ++ [b]) = escL l ++ escB b := by simp [escL]
theorem esc_len (l : List UInt8) : (escL l).length ≤ 2 * l.length := by
  induction l with
  | nil => simp [escL]
  | cons a l ih =>
    have : escL (a :: l) = escB a ++ escL l := by simp [escL]
    rw [this, List.length_append, List.length_cons]
    have h : (escB a).length ≤ 2 := by unfold escB; split <;> simp
    omega
def QtRel (s : ByteArray) (B Bc : Nat) (wc w : World) (g : Nat) (v4 v14 : Value) (W : World) : Prop :=
  ∃ i : Nat, v14 = .int .i64 (i : Int) ∧ i ≤ s.size ∧ g = s.size - i ∧ W.ownsRow B 5 1 v4 (34 :: escL (s.data.toList.take i)).length ((34 :: escL (s.data.toList.take i)).map byteV) ∧
    W.heap[Bc]? = wc.heap[Bc]? ∧ Below w.heap.size w W ∧ B ≤ W.heap.size ∧ Bc < W.heap.size
theorem cnv_block (w : World) (s : ByteArray) : (cnv w s).heap[w.heap.size]? = some (.cells (bytesRow s (grownCap w s.size 0 5)) 5 ((bytesRow s (grownCap w s.size 0 5)).size, (bytesRow s (grownCap w s.size 0 5)).size + 1)) := heap_alloc_new w.drew _
/-- a row of the call's own is not the block of the text's bytes: that one is marked. -/
theorem own_not_cnv {W wc : World} {w : World} {s : ByteArray} {B n : Nat} {v : Value} {xs : List Value} (hwc : wc = cnv w s) (h : W.heap[w.heap.size]? = wc.heap[w.heap.size]?) (ho : W.ownsRow B 5 1 v n xs) : some w.heap.size ≠ v.ownBlock := by
  subst hwc
  intro e
  obtain ⟨_, ⟨rfl, _⟩ | ⟨g, cap, cur, rfl, _, hh, _⟩⟩ := ho
  · cases e
  · simp only [Value.ownBlock, Option.some.injEq] at e
    subst e
    rw [h, cnv_block] at hh
    injection hh with hh
    injection hh with _ _ h3
    injection h3 with h4 h5
    omega
theorem keep_cnv {W W' : World} {row : Option Nat} {o : Obj} {Bc : Nat} (hg : (W.alloc o).grownBy W' row) (hlt : Bc < W.heap.size) (hne : some Bc ≠ row) : W'.heap[Bc]? = W.heap[Bc]? := by
  rw [hg.block Bc (by rw [World.size_alloc]; exact Nat.lt_succ_of_lt hlt) hne]
  exact heap_alloc_old W o hlt
theorem grown_size {W W' : World} {row : Option Nat} {o : Obj} (hg : (W.alloc o).grownBy W' row) : W.heap.size ≤ W'.heap.size := by
  have := hg.size
  rw [World.size_alloc] at this
  omega
set_option maxHeartbeats 8000000 in
theorem Quote_any (s : ByteArray) (hs : s.size ≤ 1000000000000) (w : World) : Calls Tryz.prog 82 #[.string s] w fun e w' =>
    e = .returned (.tuple #[.string ⟨(if plainL s.data.toList then quoteL s.data.toList else []).toArray⟩, .int .i64 (if plainL s.data.toList then 0 else 5)]) ∧ Below w.heap.size w w' := by
  have HP := Lib.hid (Plain_any s hs w)
  cases hp : plainL s.data.toList with
  | false =>
    rw [hp] at HP
    clear hp
    go_enter Tryz.func82, Tryz.ntmps82
    go_wp2_with fail
    refine HP.out.mono ?_
    rintro e w2 ⟨rfl, hb⟩
    go_wp2
    go_ret2
    exact ⟨rfl, hb⟩
  | true =>
    rw [hp] at HP
    clear hp
    generalize hX : quoteL s.data.toList = X
    have HX := Lib.hid hX
    clear hX
    go_enter Tryz.func82, Tryz.ntmps82
    go_wp2_with fail
    refine HP.out.mono ?_
    rintro e w2 ⟨rfl, hb⟩
    have hk := cnv_run (w2.alloc (.cells #[.int .u8 34] 5)) s
    have hbA := alloc_below w2 (.cells #[.int .u8 34] 5)
    have hown0 : (w2.alloc (.cells #[.int .u8 34] 5)).ownsRow w2.heap.size 5 1 (.slice (some ⟨w2.heap.size, 0, none⟩) 1 1) 1 [.int .u8 34] :=
      World.ownsRow_lit w2 #[.int .u8 34] 1 (Nat.le_refl _) (by decide) rfl
    have hszA : (w2.alloc (.cells #[.int .u8 34] 5)).heap.size = w2.heap.size + 1 := World.size_alloc _ _
    generalize hwA : w2.alloc (.cells #[.int .u8 34] 5) = wA at hk hbA hown0 hszA
    have hbc := cnv_below wA s
    have hszc := cnv_size wA s
    have hcell := cnv_cell wA s
    have hnot := fun (W : World) B n v xs (h1 : W.heap[wA.heap.size]? = (cnv wA s).heap[wA.heap.size]?) (h2 : W.ownsRow B 5 1 v n xs) => own_not_cnv (wc := cnv wA s) rfl h1 h2
    have hownc : (cnv wA s).ownsRow w2.heap.size 5 1 (.slice (some ⟨w2.heap.size, 0, none⟩) 1 1) 1 [.int .u8 34] :=
      World.ownsRow.alloc (w := wA.drew) hown0 _
    generalize grownCap wA s.size 0 5 = cp at hk
    generalize cnv wA s = wc at hk hbc hszc hcell hnot hownc
    have HCELL := Lib.hid hcell
    have HNOT := Lib.hid hnot
    have hbwA := hb.trans (hbA.mono hb.size)
    have hbwc := hbwA.trans (hbc.mono hbwA.size)
    clear hcell hnot hown0
    go_wp2_with fail
    go_loopg [4, 14] s.size (fun g v4 v14 W => QtRel s w2.heap.size wA.heap.size wc w g v4 v14 W)
    case atStart => exact ⟨0, rfl, by omega, by omega, by simpa [escL, byteV] using hownc, rfl, hbwc, by omega, by omega⟩
    case round =>
      obtain ⟨i, rfl, hi, hg, hown, hbl, hbw, hB, hBc⟩ := hrel
      have HG := Lib.hid hg
      clear hg
      have hel := esc_len (s.data.toList.take i)
      rw [List.length_take, list_len] at hel
      have hne := HNOT.out wr _ _ _ _ hbl hown
      by_cases hlt : i < s.size
      · have hi0 : (0 : Int) ≤ (i : Int) := by omega
        have hi1 : (i : Int) < (s.size : Int) := by omega
        have hc : wr.cell? ⟨wA.heap.size, i, none⟩ = some (.int .u8 (s[i].toNat : Int)) := (World.cell?_of_block hbl).trans (HCELL.out i hlt)
        rw [hszA] at hc
        have hts := take_snoc s i hlt
        have HT := Lib.hid (show escL (s.data.toList.take (i + 1)) = escL (s.data.toList.take i) ++ escB s[i] by rw [hts, esc_snoc])
        have HBL := Lib.hid hbl
        clear hts hbl
        by_cases h34 : s[i].toNat = 34
        · have q1 : ((s[i].toNat : Int) == 34) = true := by rw [h34]; rfl
          have HEB := Lib.hid (show escB s[i] = [92, s[i]] by unfold escB; rw [if_pos (.inl h34)])
          clear h34
          go_wp2_with (first | (at_builtin; refine app_byte rfl _ _ rfl w2.heap.size _ _ _ rfl (World.ownsRow.alloc (w := wr) hown _) ⟨wr.heap.size, 0, none⟩ 1 (byteV 92) rfl (new_cell _ _ _) rfl (by simp only [List.length_cons]; omega) (by rw [World.size_alloc]; exact Nat.le_succ_of_le hB) ?_; intro g1 cap1 w1 hown1 hgr1; have hbl1 := (keep_cnv hgr1 hBc hne).trans HBL.out; have hne1 := HNOT.out w1 _ _ _ _ hbl1 hown1; have hB1 := Nat.le_trans hB (grown_size hgr1); have hBc1 := Nat.lt_of_lt_of_le hBc (grown_size hgr1); have HBL1 := Lib.hid hbl1; clear hbl1) | (at_builtin; refine app_byte rfl _ _ rfl w2.heap.size _ _ _ rfl (World.ownsRow.alloc (w := w1) hown1 _) ⟨w1.heap.size, 0, none⟩ 1 (byteV s[i]) rfl (new_cell _ _ _) rfl (by simp only [List.length_cons]; omega) (by rw [World.size_alloc]; exact Nat.le_succ_of_le hB1) ?_; intro g' cap w' hown' hgr))
          go_roundg (s.size - (i + 1))
          case rel =>
            have hbw1 := (hbw.alloc (Nat.le_trans hb.size hB) _).grown hgr1 (by rw [World.size_alloc]; exact Nat.le_succ_of_le (Nat.le_trans hb.size hB)) (fun k hk => Nat.le_trans hb.size (own_base5 hown k hk))
            refine ⟨i + 1, by go_num, by omega, rfl, ?_, (keep_cnv hgr hBc1 hne1).trans HBL1.out, (hbw1.alloc (Nat.le_trans hb.size hB1) _).grown hgr (by rw [World.size_alloc]; exact Nat.le_succ_of_le (Nat.le_trans hb.size hB1)) (fun k hk => Nat.le_trans hb.size (own_base5 hown1 k hk)), Nat.le_trans hB1 (grown_size hgr), Nat.lt_of_lt_of_le hBc1 (grown_size hgr)⟩
            rw [HT.out, HEB.out]
            have h1 : (34 :: (escL (s.data.toList.take i) ++ [92, s[i]])).length = (34 :: escL (s.data.toList.take i)).length + 1 + 1 := by simp
            have h2 : (34 :: (escL (s.data.toList.take i) ++ [92, s[i]])).map byteV = (34 :: escL (s.data.toList.take i)).map byteV ++ [byteV 92] ++ [byteV s[i]] := by simp
            rw [h1, h2]
            exact hown'
          case measure => have := HG.out; omega
        · have q1 : ((s[i].toNat : Int) == 34) = false := by rw [beq_eq_false_iff_ne]; omega
          by_cases h92 : s[i].toNat = 92
          · have q2 : ((s[i].toNat : Int) == 92) = true := by rw [h92]; rfl
            have HEB := Lib.hid (show escB s[i] = [92, s[i]] by unfold escB; rw [if_pos (.inr h92)])
            clear h34 h92
            go_wp2_with (first | (at_builtin; refine app_byte rfl _ _ rfl w2.heap.size _ _ _ rfl (World.ownsRow.alloc (w := wr) hown _) ⟨wr.heap.size, 0, none⟩ 1 (byteV 92) rfl (new_cell _ _ _) rfl (by simp only [List.length_cons]; omega) (by rw [World.size_alloc]; exact Nat.le_succ_of_le hB) ?_; intro g1 cap1 w1 hown1 hgr1; have hbl1 := (keep_cnv hgr1 hBc hne).trans HBL.out; have hne1 := HNOT.out w1 _ _ _ _ hbl1 hown1; have hB1 := Nat.le_trans hB (grown_size hgr1); have hBc1 := Nat.lt_of_lt_of_le hBc (grown_size hgr1); have HBL1 := Lib.hid hbl1; clear hbl1) | (at_builtin; refine app_byte rfl _ _ rfl w2.heap.size _ _ _ rfl (World.ownsRow.alloc (w := w1) hown1 _) ⟨w1.heap.size, 0, none⟩ 1 (byteV s[i]) rfl (new_cell _ _ _) rfl (by simp only [List.length_cons]; omega) (by rw [World.size_alloc]; exact Nat.le_succ_of_le hB1) ?_; intro g' cap w' hown' hgr))
            go_roundg (s.size - (i + 1))
            case rel =>
              have hbw1 := (hbw.alloc (Nat.le_trans hb.size hB) _).grown hgr1 (by rw [World.size_alloc]; exact Nat.le_succ_of_le (Nat.le_trans hb.size hB)) (fun k hk => Nat.le_trans hb.size (own_base5 hown k hk))
              refine ⟨i + 1, by go_num, by omega, rfl, ?_, (keep_cnv hgr hBc1 hne1).trans HBL1.out, (hbw1.alloc (Nat.le_trans hb.size hB1) _).grown hgr (by rw [World.size_alloc]; exact Nat.le_succ_of_le (Nat.le_trans hb.size hB1)) (fun k hk => Nat.le_trans hb.size (own_base5 hown1 k hk)), Nat.le_trans hB1 (grown_size hgr), Nat.lt_of_lt_of_le hBc1 (grown_size hgr)⟩
              rw [HT.out, HEB.out]
              have h1 : (34 :: (escL (s.data.toList.take i) ++ [92, s[i]])).length = (34 :: escL (s.data.toList.take i)).length + 1 + 1 := by simp
              have h2 : (34 :: (escL (s.data.toList.take i) ++ [92, s[i]])).map byteV = (34 :: escL (s.data.toList.take i)).map byteV ++ [byteV 92] ++ [byteV s[i]] := by simp
              rw [h1, h2]
              exact hown'
            case measure => have := HG.out; omega
          · have q2 : ((s[i].toNat : Int) == 92) = false := by rw [beq_eq_false_iff_ne]; omega
            have HEB := Lib.hid (show escB s[i] = [s[i]] by unfold escB; rw [if_neg (by omega)])
            clear h34 h92
            go_wp2_with (at_builtin; refine app_byte rfl _ _ rfl w2.heap.size _ _ _ rfl (World.ownsRow.alloc (w := wr) hown _) ⟨wr.heap.size, 0, none⟩ 1 (byteV s[i]) rfl (new_cell _ _ _) rfl (by simp only [List.length_cons]; omega) (by rw [World.size_alloc]; exact Nat.le_succ_of_le hB) ?_; intro g' cap w' hown' hgr)
            go_roundg (s.size - (i + 1))
            case rel =>
              refine ⟨i + 1, by go_num, by omega, rfl, ?_, (keep_cnv hgr hBc hne).trans HBL.out, (hbw.alloc (Nat.le_trans hb.size hB) _).grown hgr (by rw [World.size_alloc]; exact Nat.le_succ_of_le (Nat.le_trans hb.size hB)) (fun k hk => Nat.le_trans hb.size (own_base5 hown k hk)), Nat.le_trans hB (grown_size hgr), Nat.lt_of_lt_of_le hBc (grown_size hgr)⟩
              rw [HT.out, HEB.out]
              have h1 : (34 :: (escL (s.data.toList.take i) ++ [s[i]])).length = (34 :: escL (s.data.toList.take i)).length + 1 := by simp
              have h2 : (34 :: (escL (s.data.toList.take i) ++ [s[i]])).map byteV = (34 :: escL (s.data.toList.take i)).map byteV ++ [byteV s[i]] := by simp
              rw [h1, h2]
              exact hown'
            case measure => have := HG.out; omega
      · have hge : ¬ (i : Int) < (s.size : Int) := by omega
        have hii : i = s.size := by omega
        have HQ := Lib.hid (show X = 34 :: (escL (s.data.toList.take i) ++ [34]) by rw [← HX.out, hii, take_all]; rfl)
        clear hii
        go_wp2_with (at_builtin; refine app_byte rfl _ _ rfl w2.heap.size _ _ _ rfl (World.ownsRow.alloc (w := wr) hown _) ⟨wr.heap.size, 0, none⟩ 1 (byteV 34) rfl (new_cell _ _ _) rfl (by simp only [List.length_cons]; omega) (by rw [World.size_alloc]; exact Nat.le_succ_of_le hB) ?_; intro g' cap w' hown' hgr; have hcv := conv_own (l := 34 :: (escL (s.data.toList.take i) ++ [34])) (n := (34 :: escL (s.data.toList.take i)).length + 1) (by simp) (by simpa using hown'); rw [← HQ.out] at hcv; simp only [List.length_cons] at hcv)
        go_ret2
        exact ⟨rfl, (hbw.alloc (Nat.le_trans hb.size hB) _).grown hgr (by rw [World.size_alloc]; exact Nat.le_succ_of_le (Nat.le_trans hb.size hB)) (fun k hk => Nat.le_trans hb.size (own_base5 hown k hk))⟩
end Go.Proofs.YtkoncmmbdlnmfaaGreatDoor
