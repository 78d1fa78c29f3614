/- What the readers of letters hand back, for texts of at most 30000 bytes. -/
import Derived.Test.YthnohioamefbmaaDoorBytes
import Derived.ShutString
namespace Go.Proofs.YthnohioamefbmaaDoor
open Go.RowKit Go.Lib
set_option linter.unusedSimpArgs false
set_option linter.unusedVariables false

/-- how far the letters have been looked up. -/
def LookRel (w2 : World) (B : Nat) (ls : ByteArray) (bare : List UInt8) (v6 v19 : Value) (W : World) : Prop :=
  ∃ k : Nat, v19 = .int .i64 k ∧ k ≤ bare.length ∧ (∀ c ∈ bare.take k, 0 ≤ idxL ls c) ∧ Below B w2 W ∧ B ≤ W.heap.size ∧
    W.ownsRow B 5 1 v6 k ((bare.take k).map fun c => Value.int .u8 (idxL ls c))

theorem indexByte_lt : ∀ (l : List UInt8) (c : UInt8), indexByte l c < l.length ∨ (indexByte l c = -1)
  | [], _ => .inr rfl
  | b :: l, c => by
    unfold indexByte
    have := indexByte_lt l c
    simp only [List.length_cons, beq_iff_eq]
    split
    · left; omega
    · split
      · right; rfl
      · left; rcases this with h | h
        · omega
        · contradiction
theorem idxL_lt (ls : ByteArray) (c : UInt8) : idxL ls c < ls.size := by
  unfold idxL
  rcases indexByte_lt ls.data.toList c with h | h
  · simpa using h
  · omega
theorem trimR_le (s : List UInt8) (c : UInt8) : (Lib.trimRightB s c).length ≤ s.length := by
  unfold Lib.trimRightB
  have := (List.dropWhile_sublist (· == c) (l := s.reverse)).length_le
  simpa using this

def bareB (fi : Nat) (s : ByteArray) : ByteArray := if 1 < fi then ⟨(Lib.trimRightB s.data.toList 61).toArray⟩ else s
theorem new_cell (w : World) (u : Value) (t : TypeId) : (w.alloc (.cells #[u] t)).cell? ⟨w.heap.size, 0, none⟩ = some u := by simp
theorem own_base {w : World} {B : Nat} {v : Value} {n : Nat} {xs : List Value} (h : w.ownsRow B 5 1 v n xs) : ∀ k, v.ownBlock = some k → B ≤ k := by
  intro k hk
  obtain ⟨_, ⟨rfl, _⟩ | ⟨g', cap', cur, rfl, hg, _⟩⟩ := h
  · simp [Value.ownBlock] at hk
  · simp only [Value.ownBlock, Option.some.injEq] at hk
    omega
def lookN (ls : ByteArray) (bare : List UInt8) : List Nat := bare.map fun c => (idxL ls c).toNat
theorem own_keep {B OB : Nat} {w W : World} {v : Value} {n : Nat} {xs : List Value} (h : w.ownsRow (OB + 1) 5 1 v n xs) (hb : ButOne B OB w W) (hB : w.heap.size ≤ B) : W.ownsRow (OB + 1) 5 1 v n xs := by
  obtain ⟨h1, h2 | ⟨g, cap, cur, rfl, hg, hh, h3⟩⟩ := h
  · exact ⟨h1, .inl h2⟩
  · refine ⟨h1, .inr ⟨g, cap, cur, rfl, hg, ?_, h3⟩⟩
    rw [hb.block g (Nat.lt_of_lt_of_le (lt_of_block hh) hB) (by omega)]
    exact hh
theorem GatherI.but {B OB : Nat} {w1 W : World} {out : List Nat} (h : GatherI B OB w1 out W) : ButOne B OB w1 W := by
  obtain ⟨v, _, _, _, h, _⟩ := h
  exact h
theorem own_look {ls : ByteArray} {bare : List UInt8} {k B : Nat} {v : Value} {W : World} {n : Nat} (hall : ∀ c ∈ bare.take k, 0 ≤ idxL ls c) (hk : k = n) {hn : bare.length = n}
    (h : W.ownsRow B 5 1 v k ((bare.take k).map fun c => Value.int .u8 (idxL ls c))) : W.ownsRow B 5 1 v (lookN ls bare).length ((lookN ls bare).map fun (c : Nat) => Value.int .u8 (c : Int)) := by
  subst hk
  rw [List.take_of_length_le (by omega)] at h hall
  have e : (bare.map fun c => Value.int .u8 (idxL ls c)) = (lookN ls bare).map fun (c : Nat) => Value.int .u8 (c : Int) := by
    unfold lookN
    rw [List.map_map]
    refine List.map_congr_left fun c hc => ?_
    have := hall c hc
    simp only [Function.comp]
    rw [Int.toNat_of_nonneg this]
  rw [e] at h
  have e2 : (lookN ls bare).length = k := by simp [lookN, hn]
  rw [e2]
  exact h
theorem look_lt (ls : ByteArray) (bare : List UInt8) (bi : Nat) (h : 2 ^ bi = ls.size) : ∀ x ∈ lookN ls bare, x < 2 ^ bi := by
  intro x hx
  obtain ⟨c, _, rfl⟩ := List.mem_map.1 hx
  have := idxL_lt ls c
  have : 0 < 2 ^ bi := Nat.two_pow_pos bi
  omega
theorem readB_eq (ls : ByteArray) (bi fi : Nat) (bare s : List UInt8) (h : ∀ c ∈ bare, 0 ≤ idxL ls c) :
    readB ls bi fi bare s = if tellL ls bi fi (regroup bi 8 (lookN ls bare) 0 0).1 = s then some (regroup bi 8 (lookN ls bare) 0 0).1 else none := by
  unfold readB
  rw [if_pos (by simp only [List.all_eq_true, decide_eq_true_eq]; exact h)]
  rfl
theorem readL_eq (ls : ByteArray) (bi fi : Nat) (s : ByteArray) : readL ls bi fi s.data.toList = readB ls bi fi (bareB fi s).data.toList s.data.toList := by
  unfold readL bareB
  split <;> simp
theorem readB_none (ls : ByteArray) (bi fi : Nat) (bare s : List UInt8) (k : Nat) (h : k < bare.length) (hn : idxL ls bare[k] < 0) : readB ls bi fi bare s = none := by
  unfold readB
  rw [if_neg]
  simp only [List.all_eq_true, decide_eq_true_eq]
  intro hall
  have := hall _ (List.getElem_mem h)
  omega
theorem bareB_le (fi : Nat) (s : ByteArray) : (bareB fi s).size ≤ s.size := by
  unfold bareB
  split
  · have := trimR_le s.data.toList 61
    have e : (⟨(Lib.trimRightB s.data.toList 61).toArray⟩ : ByteArray).size = (Lib.trimRightB s.data.toList 61).length := size_of_list _
    rw [e]
    exact Nat.le_trans this (Nat.le_of_eq (by rw [Array.length_toList]; rfl))
  · exact Nat.le_refl _
theorem idx_at (ls s : ByteArray) (k : Nat) (h : k < s.size) (W : World) (n : Nat) :
    Calls Tryd.prog 40 #[.string ls, .int .u8 (s[k].toNat : Int)] (W.drewN n) fun e w' => e = .returned (.int .i64 (idxL ls s[k])) ∧ w' = W.drewN n :=
  (Tryd.strings_IndexByte ls s[k].toNat (W.drewN n)).mono fun _ _ ⟨he, hw⟩ => ⟨by rw [he]; simp [idxL], hw⟩

set_option maxRecDepth 100000 in
set_option maxHeartbeats 2000000 in
theorem read_any (ls : ByteArray) (bi fi : Nat) (hbi : 4 ≤ bi) (hbi' : bi ≤ 8) (hls : 2 ^ bi = ls.size) (hfi : 1 ≤ fi) (hfi' : fi ≤ 4)
    (s : ByteArray) (hlen : s.size ≤ 30000) (w : World) :
    Calls Tryd.prog 26 #[.agg #[.string ls, .int .i64 (bi : Int), .int .i64 (fi : Int)], .string s] w fun e w' => ReadPost w (readL ls bi fi s.data.toList) e w' := by
  have hls2 : ls.size ≤ 256 := by rw [← hls]; exact Nat.pow_le_pow_right (by omega) hbi'
  have HLS := Lib.hid hls
  clear hls
  have hble := bareB_le fi s
  rw [readL_eq]
  have HB1 := Lib.hid (show 1 < fi → bareB fi s = ⟨(Lib.trimRightB s.data.toList 61).toArray⟩ from fun h => if_pos h)
  have HB2 := Lib.hid (show ¬ 1 < fi → bareB fi s = s from fun h => if_neg h)
  generalize bareB fi s = bare at *
  go_enter Tryd.func26, Tryd.ntmps26
  go_upto_if 14 with (fail)
  go_cut [8] (fun v8 wc => v8 = .string bare ∧ wc = (kindW ls bi fi w).alloc (Obj.cells #[Value.slice none 0 0] 22))
  case first =>
    by_cases h1 : 1 < fi
    · have hT := Tryd.strings_TrimRight_one s 61 (by decide)
      go_wp2_with (go_at_call 39; refine (hT _ (by omega)).mono ?_; rintro e w' ⟨rfl, rfl⟩)
      go_meet
      case rel => exact ⟨by rw [HB1.out h1], rfl⟩
    · go_wp2
      go_meet
      case rel => exact ⟨by rw [HB2.out h1], rfl⟩
  case rest =>
    obtain ⟨rfl, rfl⟩ := hcut
    go_wp2_with fail
    go_loopw [6, 19] (fun v6 v19 W => LookRel ((kindW ls bi fi w).alloc (Obj.cells #[Value.slice none 0 0] 22)) (w.heap.size + 2) ls bare.data.toList v6 v19 W) (fun _ i _ => bare.size - (intOf i).toNat)
    case atStart => exact ⟨0, rfl, by omega, by simp, Below.refl _ _, by simp [kindW], by simp [World.ownsRow]⟩
    case round =>
      obtain ⟨k, rfl, hk, hall, hbel, hBs, hown⟩ := hrel
      have HA := Lib.hid hall
      clear hall
      have hk' : k ≤ bare.size := by simpa using hk
      clear hk
      have hkc := kind_cells ls bi fi w wr _ _ rfl (hbel.mono (by omega))
      obtain ⟨k0, k1, k2, -, hbw, hsz⟩ := hkc
      by_cases hlt : k < bare.size
      · have hI := idx_at ls bare k hlt wr
        have hil := idxL_lt ls bare[k]
        go_wp2_with fail
        go_quiet ((go_at_call 40; exact Calls.quiet_of_same (hI _)))
        go_wp2_with (at_builtin; go_must (refine app_byte rfl _ _ rfl (w.heap.size + 2) _ _ _ rfl (World.ownsRow.alloc (w := wr.drewN nq) hown _) ⟨wr.heap.size, 0, none⟩ 1 (.int .u8 (idxL ls bare[k])) rfl ?_ rfl ?_ ?_ ?_; exact new_cell _ _ _; omega; (rw [World.size_alloc]; exact Nat.le_succ_of_le hBs); intro g cap w' hown' hgr))
        · go_ret2
          exact ⟨.slice none 0 0, [], 5, rfl, ⟨none, 0, rfl, .inl rfl⟩, .inl ⟨readB_none ls bi fi _ _ k (by simpa using hlt) ‹idxL ls bare[k] < 0›, rfl, rfl⟩, hbw.trans (bdrew _ _ _)⟩
        · go_roundw
          case rel =>
            have htk : bare.data.toList.take (k + 1) = bare.data.toList.take k ++ [bare[k]] := by rw [List.take_succ_eq_append_getElem (by simpa using hlt)]; rfl
            refine ⟨k + 1, by go_num, by (have := hlt; simp; omega), ?_, ?_, ?_, ?_⟩
            · intro c hc
              rw [htk] at hc
              rcases List.mem_append.1 hc with hc | hc
              · exact HA.out c hc
              · rw [List.mem_singleton.1 hc]; assumption
            · refine ((hbel.trans (bdrew _ _ nq)).alloc hBs _).grown hgr (by rw [World.size_alloc]; exact Nat.le_succ_of_le hBs) (own_base hown)
            · have := hgr.size
              rw [World.size_alloc] at this
              exact Nat.le_trans hBs (Nat.le_trans (Nat.le_succ _) this)
            · rw [htk, List.map_append]; exact hown'
          case measure => simp [intOf]; omega
      · have hkk : k = bare.size := by omega
        have HOW : wr.ownsRow (w.heap.size + 2) 5 1 u6 (lookN ls bare.data.toList).length ((lookN ls bare.data.toList).map fun (c : Nat) => Value.int .u8 (c : Int)) :=
          own_look (hn := by simp) HA.out hkk hown
        have HLT : ∀ x ∈ lookN ls bare.data.toList, x < 2 ^ bi := look_lt ls bare.data.toList bi HLS.out
        have hOB : wr.heap[w.heap.size + 1]? = some (.cells #[.slice none 0 0] 22 (0, 0)) := by
          rw [hbel.block _ (by omega)]; exact second_block ls bi fi w _
        have hlk : (lookN ls bare.data.toList).length ≤ 30000 := by simp [lookN]; omega
        have hB := bits_all 41 #[Value.pointer (some ⟨w.heap.size + 1, 0, none⟩)] (GatherI wr.heap.size (w.heap.size + 1) wr) bi 8 u6 (lookN ls bare.data.toList) wr wr
          (Bytes.of_owns rfl HOW) (by omega) (by omega) (by omega) hbi hbi' HLT (enters_of Tryd.func41 (by kernel_rfl) rfl)
          (fun out c W hI hc ho => gather_any _ _ _ out c W hI hc (by omega))
          (fun out W hI => Bytes.of_owns rfl (own_keep HOW hI.but (by omega)))
          ⟨.slice none 0 0, hOB, by simp [World.ownsRow], by simp [Value.ownBlock], ButOne.refl _ _ _, by omega, Nat.le_refl _⟩
        have hrb := readB_eq ls bi fi bare.data.toList s.data.toList (by
          intro c hc
          refine HA.out c ?_
          rw [hkk, List.take_of_length_le (by simp)]
          exact hc)
        have hinv := regroup_inv bi 8 (by omega) hbi' (by omega) (lookN ls bare.data.toList) 0 0 HLT (by simp) (by omega)
        have hrl := regroup_bits bi 8 (lookN ls bare.data.toList) 0 0
        have HX := Lib.hid (show bare.size = bare.size from rfl)
        generalize regroup bi 8 (lookN ls bare.data.toList) 0 0 = R at *
        obtain ⟨out, rr, m⟩ := R
        simp only at hB hrb hinv hrl
        obtain ⟨-, -, hout⟩ := hinv
        have holen : out.length ≤ 100000 := by
          have : bi * (lookN ls bare.data.toList).length ≤ 8 * 30000 := Nat.mul_le_mul hbi' hlk
          omega
        have HRB := Lib.hid hrb
        clear hrb hrl hlk
        have HBB := Lib.hid hB
        clear hB HLT hOB
        have HOUT := Lib.hid hout
        clear hout
        go_wp2_with fail
        refine HBB.out.mono ?_
        rintro e w1 ⟨rfl, v, hv, how, hne, hbut, -, hBs1⟩
        have c0 := (hbut.cell (p := ⟨w.heap.size, 0, none⟩) (by show w.heap.size < _; omega) (by show w.heap.size ≠ _; omega)).trans k0
        have c1 := (hbut.cell (p := ⟨w.heap.size, 1, none⟩) (by show w.heap.size < _; omega) (by show w.heap.size ≠ _; omega)).trans k1
        have c2 := (hbut.cell (p := ⟨w.heap.size, 2, none⟩) (by show w.heap.size < _; omega) (by show w.heap.size ≠ _; omega)).trans k2
        have cv := (cell_one hv).1
        clear k0 k1 k2
        have hT := tell_any ls bi fi hbi hbi' (by rw [HLS.out]; exact Nat.le_refl _) hfi hfi' v out.length out rfl holen w1 HOUT.out (Bytes.of_owns rfl how)
        have HT := Lib.hid hT
        clear hT
        have hbw1 : Below w.heap.size w w1 := hbw.trans (hbut.below (by omega) (by omega))
        have hOBw : w.heap.size + 1 < w1.heap.size := by omega
        have HOW2 := Lib.hid how
        clear how
        go_wp2_with fail
        refine HT.out.mono ?_
        rintro e w2 ⟨rfl, hb2⟩
        have cv2 : w2.cell? ⟨w.heap.size + 1, 0, none⟩ = some v := (hb2.cell (p := ⟨w.heap.size + 1, 0, none⟩) hOBw).trans cv
        go_wp2
        · have ht : (!tellL ls bi fi out == s.toList) = true := by assumption
          have hne : ¬ tellL ls bi fi out = s.data.toList := by
            rw [ByteArray.toList_eq] at ht
            simpa using ht
          go_ret2
          exact ⟨.slice none 0 0, [], 5, rfl, ⟨none, 0, rfl, .inl rfl⟩, .inl ⟨by rw [HRB.out, if_neg hne], rfl, rfl⟩, hbw1.trans (hb2.mono hbw1.size)⟩
        · have ht : (!tellL ls bi fi out == s.toList) = false := by assumption
          have hey : tellL ls bi fi out = s.data.toList := by
            rw [ByteArray.toList_eq] at ht
            simpa using ht
          go_ret2
          exact ⟨v, out, 0, rfl, (Bytes.of_owns rfl HOW2.out).below hb2, .inr ⟨by rw [HRB.out, if_pos hey], rfl⟩, hbw1.trans (hb2.mono hbw1.size)⟩
end Go.Proofs.YthnohioamefbmaaDoor
