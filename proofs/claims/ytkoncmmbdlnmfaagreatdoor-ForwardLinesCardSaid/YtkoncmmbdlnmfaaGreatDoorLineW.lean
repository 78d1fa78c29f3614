/- ForwardLines: its walk. -/
import Derived.Test.YtkoncmmbdlnmfaaGreatDoorEK5
import Derived.Test.YtkoncmmbdlnmfaaGreatDoorEK8
import Derived.Test.YtkoncmmbdlnmfaaGreatDoorOwnW
import Derived.Test.YtkoncmmbdlnmfaaGreatDoorEK6
namespace Go.Proofs.YtkoncmmbdlnmfaaGreatDoor
open Go.RowKit Go.Lib
set_option linter.unusedSimpArgs false
set_option linter.unusedVariables false
set_option linter.unnecessarySimpa false
set_option maxRecDepth 100000

/-- the target's cells while its parts are made small, one by one. -/
def LnR (w0 : World) (k : Int) (a b n : List UInt8) (L : Array Bool) (w : World) : Prop :=
  Below w0.heap.size w0 w ∧ Four4 w0.heap.size (.int .i64 k) (sel2 (L.getD 13 false) (.string ⟨(lowL a).toArray⟩) (.string ⟨a.toArray⟩)) (sel2 (L.getD 16 false) (.string ⟨(lowL b).toArray⟩) (.string ⟨b.toArray⟩)) (sel2 (L.getD 18 false) (.string ⟨(lowL n).toArray⟩) (.string ⟨n.toArray⟩)) w
theorem selt_no {b : Bool} (h : b = false) (x y : Value) : sel2 b x y = y := self_ h x y
section
variable {w0 : World} {k : Int} {a b n : List UInt8} {L : Array Bool} {w : World}
theorem setb_same {i j : Nat} (h : i ≠ j) : (L.setIfInBounds i true).getD j false = L.getD j false := getD_set_ne false h
theorem LnR.keep (h : LnR w0 k a b n L w) {i : Nat} (h1 : i ≠ 13) (h2 : i ≠ 16) (h3 : i ≠ 18) : LnR w0 k a b n (L.setIfInBounds i true) w := by
  unfold LnR
  rw [setb_same h1, setb_same h2, setb_same h3]
  exact h
theorem LnR.call (h : LnR w0 k a b n L w) {W : World} (hb : Below w.heap.size w W) {i : Nat} (h1 : i ≠ 13) (h2 : i ≠ 16) (h3 : i ≠ 18) : LnR w0 k a b n (L.setIfInBounds i true) W := by
  unfold LnR
  rw [setb_same h1, setb_same h2, setb_same h3]
  exact ⟨h.1.trans (hb.mono h.1.size), h.2.below hb⟩
theorem Four4.put1 {B : Nat} {x y z u : Value} {W : World} (h : Four4 B x y z u W) (d : Value) : Four4 B x d z u (W.setCell ⟨B, 1, none⟩ d) := by
  refine ⟨⟨by simpa [World.setCell] using h.c.lt, ?_, Go.Proofs.YtkoncmmbdlnmfaaGreatDoor.set_same W ⟨B, 1, none⟩ _ d h.c.c1, ?_, ?_⟩, ?_, ?_, ?_, ?_⟩
  · rw [cell_off _ B 1 0 d (by decide)]; exact h.c.c0
  · rw [cell_off _ B 1 2 d (by decide)]; exact h.c.c2
  · rw [cell_off _ B 1 3 d (by decide)]; exact h.c.c3
  · simp only [World.frozen?_setCell]; exact h.f0
  · simp only [World.frozen?_setCell]; exact h.f1
  · simp only [World.frozen?_setCell]; exact h.f2
  · simp only [World.frozen?_setCell]; exact h.f3
theorem Four4.put2 {B : Nat} {x y z u : Value} {W : World} (h : Four4 B x y z u W) (d : Value) : Four4 B x y d u (W.setCell ⟨B, 2, none⟩ d) := by
  refine ⟨⟨by simpa [World.setCell] using h.c.lt, ?_, ?_, Go.Proofs.YtkoncmmbdlnmfaaGreatDoor.set_same W ⟨B, 2, none⟩ _ d h.c.c2, ?_⟩, ?_, ?_, ?_, ?_⟩
  · rw [cell_off _ B 2 0 d (by decide)]; exact h.c.c0
  · rw [cell_off _ B 2 1 d (by decide)]; exact h.c.c1
  · rw [cell_off _ B 2 3 d (by decide)]; exact h.c.c3
  · simp only [World.frozen?_setCell]; exact h.f0
  · simp only [World.frozen?_setCell]; exact h.f1
  · simp only [World.frozen?_setCell]; exact h.f2
  · simp only [World.frozen?_setCell]; exact h.f3
theorem set_true {i : Nat} (h : i < L.size) : (L.setIfInBounds i true).getD i false = true := by
  rw [getD_set _ _ _ h, decide_eq_true rfl]
  rfl
theorem LnR.s13 (h : LnR w0 k a b n L w) (hi : 13 < L.size) : LnR w0 k a b n (L.setIfInBounds 13 true) (w.setCell ⟨w0.heap.size, 1, none⟩ (.string ⟨(lowL a).toArray⟩)) := by
  unfold LnR
  rw [set_true hi, setb_same (show 13 ≠ 16 by decide), setb_same (show 13 ≠ 18 by decide), selt rfl]
  exact ⟨h.1.setCell (p := ⟨w0.heap.size, 1, none⟩) (Nat.le_refl _) _, h.2.put1 _⟩
theorem LnR.s16 (h : LnR w0 k a b n L w) (hi : 16 < L.size) : LnR w0 k a b n (L.setIfInBounds 16 true) (w.setCell ⟨w0.heap.size, 2, none⟩ (.string ⟨(lowL b).toArray⟩)) := by
  unfold LnR
  rw [set_true hi, setb_same (show 16 ≠ 13 by decide), setb_same (show 16 ≠ 18 by decide), selt rfl]
  exact ⟨h.1.setCell (p := ⟨w0.heap.size, 2, none⟩) (Nat.le_refl _) _, h.2.put2 _⟩
theorem LnR.s18 (h : LnR w0 k a b n L w) (hi : 18 < L.size) : LnR w0 k a b n (L.setIfInBounds 18 true) (w.setCell ⟨w0.heap.size, 3, none⟩ (.string ⟨(lowL n).toArray⟩)) := by
  unfold LnR
  rw [set_true hi, setb_same (show 18 ≠ 13 by decide), setb_same (show 18 ≠ 16 by decide), selt rfl]
  exact ⟨h.1.setCell (p := ⟨w0.heap.size, 3, none⟩) (Nat.le_refl _) _, h.2.put3 _⟩
end
def LnRel (L : List TI) (w2 : World) (g : Nat) (v5 v6 v7 v28 : Value) (W : World) : Prop :=
  ∃ i : Nat, v28 = .int .i64 (i : Int) ∧ i ≤ L.length ∧ g = L.length - i ∧ v5 = .string ⟨(joinK ((lineAll (L.take i)).map textI)).toArray⟩ ∧ v6 = .string ⟨(rowsB ((lineAll (L.take i)).map textI)).toArray⟩ ∧
    W.ownsRow w2.heap.size 28 4 v7 (lineAll (L.take i)).length ((lineAll (L.take i)).flatMap tiC) ∧ Below w2.heap.size w2 W
theorem line_take {L : List TI} (h : ∀ t ∈ L, FewOk t) (i : Nat) : (∀ t ∈ lineAll (L.take i), LineOk t) ∧ (lineAll (L.take i)).Nodup ∧ (lineAll (L.take i)).length ≤ 10 :=
  line_inv (L.take i) [] (fun t ht => by cases ht) List.nodup_nil (Nat.zero_le _) (fun t ht => h t (List.mem_of_mem_take ht))
theorem line_texts {O : List TI} (h : ∀ t ∈ O, LineOk t) : ∀ x ∈ O.map textI, x.length ≤ 340 := fun x hx => by
  obtain ⟨t, ht, rfl⟩ := List.mem_map.1 hx
  have h1 := textI_len t
  obtain ⟨-, ⟨h2, h3, h4⟩, -⟩ := h t ht
  omega
theorem mk_list (l : List UInt8) : (⟨l.toArray⟩ : ByteArray).data.toList = l := rfl
theorem trimSuffix_lf (Y : List UInt8) : Lib.trimSuffix (Y ++ [10]) [10] = Y := by
  unfold Lib.trimSuffix
  rw [← Lib.hasSuffix_of_drop]
  have e1 : (Y ++ [10]).length - ([10] : List UInt8).length = Y.length := by simp
  rw [e1, List.drop_left, List.take_left]
  simp
theorem joinK_nil {l : List (List UInt8)} (h : ∀ x ∈ l, x ≠ []) (e : joinK l = []) : l = [] := by
  cases hl : l with
  | nil => rfl
  | cons a r => exact absurd e (by rw [hl]; exact joinK_ne _ (by simp) (by rw [← hl]; exact h))
set_option maxHeartbeats 32000000 in
theorem lines_any (l : List TI) (v : Value) (us : ByteArray) (w : World) (hrow : GRow 4 tiC w v l) (hus : us.size ≤ 140737488351232) (hEB : Env w ∧ Begs w) :
    Calls Tryz.prog 7 #[v, .string us] w fun e w' => e = .returned (.bool true) ∧ Below w.heap.size w w' := by
  obtain ⟨hE, hB⟩ := hEB
  have h0 : (0 : Int) ≤ min (us.size : Int) 40 := by omega
  have h1 : min (us.size : Int) 40 ≤ (us.size : Int) := by omega
  have hU : (us.extract 0 (min (us.size : Int) 40).toNat).size ≤ 40 := by simp; omega
  have HF := Lib.hid (Few_any l v w hrow)
  have hLl := few_len l
  have hLk := few_ok l
  generalize fewL l = L at HF hLl hLk
  have HLK := Lib.hid hLk
  have HE := Lib.hid hE
  have HB := Lib.hid hB
  clear hrow hLk hE hB
  go_enter Tryz.func7, Tryz.ntmps7
  go_wp2_with fail
  generalize hUe : us.extract 0 (min (us.size : Int) 40).toNat = U at hU ⊢
  clear h0 h1 hUe hus
  refine HF.out.mono ?_
  rintro e w2 ⟨v', rfl, hr, hb2⟩
  have HR := Lib.hid hr
  have HB2 := Lib.hid hb2
  have HE2 := Lib.hid (HE.out.below hb2)
  have HG2 := Lib.hid (HB.out.below hb2)
  obtain ⟨p, cap, rfl, -⟩ := hr
  clear hb2 HF
  go_wp2_with fail
  go_loopg [5, 6, 7, 28] L.length (fun g v5 v6 v7 v28 W => LnRel L w2 g v5 v6 v7 v28 W)
  case atStart => exact ⟨0, rfl, Nat.zero_le _, rfl, rfl, rfl, World.ownsRow_nil _ _ _ _, Below.refl _ _⟩
  case round =>
    obtain ⟨i, rfl, hi, hg, rfl, rfl, hown, hb⟩ := hrel
    have HG := Lib.hid hg
    have HO := Lib.hid hown
    have HBW := Lib.hid hb
    clear hg hown hb
    by_cases hlt : i < L.length
    · have hi0 : (0 : Int) ≤ (i : Int) := by omega
      have hi1 : (i : Int) < (L.length : Int) := by omega
      have hwk : IntKind.i64.wrap ((i : Int) + 1) = (i : Int) + 1 := by rw [IntKind.wrap_i64]; omega
      have hx := List.getElem?_eq_getElem hlt
      obtain ⟨T, hT⟩ : ∃ T, L[i] = T := ⟨_, rfl⟩
      rw [hT] at hx
      have hmem : T ∈ L := by rw [← hT]; exact List.getElem_mem hlt
      have hts := HLK.out T hmem
      have hks := line_at hx
      obtain ⟨hok, -, hkl⟩ := line_take HLK.out i
      obtain ⟨O, hO⟩ : ∃ O, lineAll (L.take i) = O := ⟨_, rfl⟩
      rw [hO] at HO hks hkl hok
      rw [hO]
      have HKS := Lib.hid hks
      have HOK := Lib.hid hok
      obtain ⟨p', cap', he, h⟩ := HR.out.below HBW.out
      obtain rfl : cap = cap' := by injection he
      obtain rfl : p = p' := by injection he
      obtain ⟨b, o, hpb, hc⟩ := grow_at h hlt
      subst hpb
      clear he h
      obtain ⟨k, ⟨a, b'⟩, n⟩ := T
      have d0 := hc i _ hx 0 (.int .i64 k) rfl
      have d1 := hc i _ hx 1 (.string ⟨a.toArray⟩) rfl
      have d2 := hc i _ hx 2 (.string ⟨b'.toArray⟩) rfl
      have d3 := hc i _ hx 3 (.string ⟨n.toArray⟩) rfl
      rw [Nat.add_zero] at d0
      obtain ⟨q1, q2, q3⟩ := hts
      simp only at q1 q2 q3
      have HL1 := Lib.hid (fun W => Lower_any ⟨a.toArray⟩ (by show a.length ≤ _; omega) W)
      have HL2 := Lib.hid (fun W => Lower_any ⟨b'.toArray⟩ (by show b'.length ≤ _; omega) W)
      have HL3 := Lib.hid (fun W => Lower_any ⟨n.toArray⟩ (by show n.length ≤ _; omega) W)
      simp only at HL1 HL2 HL3
      have HB0 := Lib.hid (alloc_below wr (.cells #[.int .i64 k, .string ⟨a.toArray⟩, .string ⟨b'.toArray⟩, .string ⟨n.toArray⟩] 28))
      have HFF := Lib.hid (Four4.made wr (.int .i64 k) (.string ⟨a.toArray⟩) (.string ⟨b'.toArray⟩) (.string ⟨n.toArray⟩) 28)
      obtain ⟨wy, hwy⟩ : ∃ wy, wr.alloc (.cells #[.int .i64 k, .string ⟨a.toArray⟩, .string ⟨b'.toArray⟩, .string ⟨n.toArray⟩] 28) = wy := ⟨_, rfl⟩
      rw [hwy] at HB0 HFF
      go_wp2_with fail
      refine wp_region_det (by kernel_rfl) 19 rfl (fun i => [.pointer (some ⟨wr.heap.size, 1, none⟩), .pointer (some ⟨wr.heap.size, 1, none⟩), .string ⟨a.toArray⟩, .string ⟨(lowL a).toArray⟩, .pointer (some ⟨wr.heap.size, 1, none⟩), .pointer (some ⟨wr.heap.size, 2, none⟩), .string ⟨b'.toArray⟩, .string ⟨(lowL b').toArray⟩, .pointer (some ⟨wr.heap.size, 3, none⟩), .string ⟨n.toArray⟩, .string ⟨(lowL n).toArray⟩, .pointer (some ⟨wr.heap.size, 1, none⟩), .pointer (some ⟨wr.heap.size, 1, none⟩), undef, .pointer (some ⟨wr.heap.size, 1, none⟩), .pointer (some ⟨wr.heap.size, 2, none⟩), undef, .pointer (some ⟨wr.heap.size, 3, none⟩), undef].getD i undef) (LnR wr k a b' n) (by kernel_rfl) (by kernel_rfl) ?hR0 ?hop [(0, 32), (1, 33), (2, 34), (3, 35), (4, 36), (5, 37), (6, 38), (7, 39), (8, 40), (9, 41), (10, 42), (11, 43), (12, 44), (14, 45), (15, 46), (17, 47)] (by kernel_rfl) ?hfin
      case hR0 => exact ⟨HB0.out.trans ((drew_below wy).mono HB0.out.size), HFF.out.below (drew_below wy)⟩
      case hop =>
        refine ⟨⟨⟨⟨⟨⟨⟨⟨⟨⟨⟨⟨⟨⟨⟨⟨⟨⟨⟨True.intro, ?_⟩, ?_⟩, ?_⟩, ?_⟩, ?_⟩, ?_⟩, ?_⟩, ?_⟩, ?_⟩, ?_⟩, ?_⟩, ?_⟩, ?_⟩, ?_⟩, ?_⟩, ?_⟩, ?_⟩, ?_⟩, ?_⟩
        · refine ⟨_, rfl, by kernel_rfl, fun Lq aq wq hi hH hA hW hR => ?_⟩
          rw [if_pos (by rfl)]
          intro K hK
          have e0 := hH.base 9 (.pointer (some ⟨wr.heap.size, 0, none⟩)) (by kernel_rfl) rfl
          clear hH hA
          refine step_pure (.pointer (some ⟨wr.heap.size, 1, none⟩)) ?_ (hK.out _ (hR.keep (by decide) (by decide) (by decide)))
          clear hK
          (simp only [execOp, Act.eval, e0]; go_simp)
        · refine ⟨_, rfl, by kernel_rfl, fun Lq aq wq hi hH hA hW hR => ?_⟩
          rw [if_pos (by rfl)]
          intro K hK
          have e0 := hH.at 0 32 (.pointer (some ⟨wr.heap.size, 1, none⟩)) (by kernel_rfl) (hA 0 (by kernel_rfl)) rfl
          clear hH hA
          refine step_pure (.pointer (some ⟨wr.heap.size, 1, none⟩)) ?_ (hK.out _ (hR.keep (by decide) (by decide) (by decide)))
          clear hK
          (simp only [execOp, Act.eval, e0]; go_simp)
        · refine ⟨_, rfl, by kernel_rfl, fun Lq aq wq hi hH hA hW hR => ?_⟩
          rw [if_pos (by rfl)]
          intro K hK
          have e0 := hH.at 1 33 (.pointer (some ⟨wr.heap.size, 1, none⟩)) (by kernel_rfl) (hA 1 (by kernel_rfl)) rfl
          clear hH hA
          have hc := hR.2.c.c1
          rw [selt_no (hW 13 (by kernel_rfl))] at hc
          refine step_pure (.string ⟨a.toArray⟩) ?_ (hK.out _ (hR.keep (by decide) (by decide) (by decide)))
          clear hK
          (simp only [execOp, Act.eval, e0]; go_simp)
        · refine ⟨_, rfl, by kernel_rfl, fun Lq aq wq hi hH hA hW hR => ?_⟩
          rw [if_pos (by rfl)]
          intro K hK
          have e0 := hH.at 2 34 (.string ⟨a.toArray⟩) (by kernel_rfl) (hA 2 (by kernel_rfl)) rfl
          clear hH hA
          unfold Oper.wp
          simp only [execOp, Act.eval, e0]
          go_simp
          refine (HL1.out _).mono ?_
          rintro e w' ⟨rfl, hb⟩
          exact hK.out _ (hR.call hb (by decide) (by decide) (by decide))
        · refine ⟨_, rfl, by kernel_rfl, fun Lq aq wq hi hH hA hW hR => ?_⟩
          rw [if_pos (by rfl)]
          intro K hK
          have e0 := hH.base 9 (.pointer (some ⟨wr.heap.size, 0, none⟩)) (by kernel_rfl) rfl
          clear hH hA
          refine step_pure (.pointer (some ⟨wr.heap.size, 1, none⟩)) ?_ (hK.out _ (hR.keep (by decide) (by decide) (by decide)))
          clear hK
          (simp only [execOp, Act.eval, e0]; go_simp)
        · refine ⟨_, rfl, by kernel_rfl, fun Lq aq wq hi hH hA hW hR => ?_⟩
          rw [if_pos (by rfl)]
          intro K hK
          have e0 := hH.at 4 36 (.pointer (some ⟨wr.heap.size, 1, none⟩)) (by kernel_rfl) (hA 4 (by kernel_rfl)) rfl
          clear hH hA
          refine step_pure (.pointer (some ⟨wr.heap.size, 2, none⟩)) ?_ (hK.out _ (hR.keep (by decide) (by decide) (by decide)))
          clear hK
          (simp only [execOp, Act.eval, e0]; go_simp)
        · refine ⟨_, rfl, by kernel_rfl, fun Lq aq wq hi hH hA hW hR => ?_⟩
          rw [if_pos (by rfl)]
          intro K hK
          have e0 := hH.at 5 37 (.pointer (some ⟨wr.heap.size, 2, none⟩)) (by kernel_rfl) (hA 5 (by kernel_rfl)) rfl
          clear hH hA
          have hc := hR.2.c.c2
          rw [selt_no (hW 16 (by kernel_rfl))] at hc
          refine step_pure (.string ⟨b'.toArray⟩) ?_ (hK.out _ (hR.keep (by decide) (by decide) (by decide)))
          clear hK
          (simp only [execOp, Act.eval, e0]; go_simp)
        · refine ⟨_, rfl, by kernel_rfl, fun Lq aq wq hi hH hA hW hR => ?_⟩
          rw [if_pos (by rfl)]
          intro K hK
          have e0 := hH.at 6 38 (.string ⟨b'.toArray⟩) (by kernel_rfl) (hA 6 (by kernel_rfl)) rfl
          clear hH hA
          unfold Oper.wp
          simp only [execOp, Act.eval, e0]
          go_simp
          refine (HL2.out _).mono ?_
          rintro e w' ⟨rfl, hb⟩
          exact hK.out _ (hR.call hb (by decide) (by decide) (by decide))
        · refine ⟨_, rfl, by kernel_rfl, fun Lq aq wq hi hH hA hW hR => ?_⟩
          rw [if_pos (by rfl)]
          intro K hK
          have e0 := hH.base 9 (.pointer (some ⟨wr.heap.size, 0, none⟩)) (by kernel_rfl) rfl
          clear hH hA
          refine step_pure (.pointer (some ⟨wr.heap.size, 3, none⟩)) ?_ (hK.out _ (hR.keep (by decide) (by decide) (by decide)))
          clear hK
          (simp only [execOp, Act.eval, e0]; go_simp)
        · refine ⟨_, rfl, by kernel_rfl, fun Lq aq wq hi hH hA hW hR => ?_⟩
          rw [if_pos (by rfl)]
          intro K hK
          have e0 := hH.at 8 40 (.pointer (some ⟨wr.heap.size, 3, none⟩)) (by kernel_rfl) (hA 8 (by kernel_rfl)) rfl
          clear hH hA
          have hc := hR.2.c.c3
          rw [selt_no (hW 18 (by kernel_rfl))] at hc
          refine step_pure (.string ⟨n.toArray⟩) ?_ (hK.out _ (hR.keep (by decide) (by decide) (by decide)))
          clear hK
          (simp only [execOp, Act.eval, e0]; go_simp)
        · refine ⟨_, rfl, by kernel_rfl, fun Lq aq wq hi hH hA hW hR => ?_⟩
          rw [if_pos (by rfl)]
          intro K hK
          have e0 := hH.at 9 41 (.string ⟨n.toArray⟩) (by kernel_rfl) (hA 9 (by kernel_rfl)) rfl
          clear hH hA
          unfold Oper.wp
          simp only [execOp, Act.eval, e0]
          go_simp
          refine (HL3.out _).mono ?_
          rintro e w' ⟨rfl, hb⟩
          exact hK.out _ (hR.call hb (by decide) (by decide) (by decide))
        · refine ⟨_, rfl, by kernel_rfl, fun Lq aq wq hi hH hA hW hR => ?_⟩
          rw [if_pos (by rfl)]
          intro K hK
          have e0 := hH.base 9 (.pointer (some ⟨wr.heap.size, 0, none⟩)) (by kernel_rfl) rfl
          clear hH hA
          refine step_pure (.pointer (some ⟨wr.heap.size, 1, none⟩)) ?_ (hK.out _ (hR.keep (by decide) (by decide) (by decide)))
          clear hK
          (simp only [execOp, Act.eval, e0]; go_simp)
        · refine ⟨_, rfl, by kernel_rfl, fun Lq aq wq hi hH hA hW hR => ?_⟩
          rw [if_pos (by rfl)]
          intro K hK
          have e0 := hH.at 11 43 (.pointer (some ⟨wr.heap.size, 1, none⟩)) (by kernel_rfl) (hA 11 (by kernel_rfl)) rfl
          clear hH hA
          refine step_pure (.pointer (some ⟨wr.heap.size, 1, none⟩)) ?_ (hK.out _ (hR.keep (by decide) (by decide) (by decide)))
          clear hK
          (simp only [execOp, Act.eval, e0]; go_simp)
        · refine ⟨_, rfl, by kernel_rfl, fun Lq aq wq hi hH hA hW hR => ?_⟩
          rw [if_pos (by rfl)]
          intro K hK
          have e0 := hH.at 12 44 (.pointer (some ⟨wr.heap.size, 1, none⟩)) (by kernel_rfl) (hA 12 (by kernel_rfl)) rfl
          have e1 := hH.at 3 35 (.string ⟨(lowL a).toArray⟩) (by kernel_rfl) (hA 3 (by kernel_rfl)) rfl
          clear hH hA
          have hc := hR.2.c.c1
          have hf := hR.2.f1
          unfold Oper.wp
          simp only [execOp, Act.eval, e0, e1]
          go_simp
          exact hK.out _ (hR.s13 hi)
        · refine ⟨_, rfl, by kernel_rfl, fun Lq aq wq hi hH hA hW hR => ?_⟩
          rw [if_pos (by rfl)]
          intro K hK
          have e0 := hH.base 9 (.pointer (some ⟨wr.heap.size, 0, none⟩)) (by kernel_rfl) rfl
          clear hH hA
          refine step_pure (.pointer (some ⟨wr.heap.size, 1, none⟩)) ?_ (hK.out _ (hR.keep (by decide) (by decide) (by decide)))
          clear hK
          (simp only [execOp, Act.eval, e0]; go_simp)
        · refine ⟨_, rfl, by kernel_rfl, fun Lq aq wq hi hH hA hW hR => ?_⟩
          rw [if_pos (by rfl)]
          intro K hK
          have e0 := hH.at 14 45 (.pointer (some ⟨wr.heap.size, 1, none⟩)) (by kernel_rfl) (hA 14 (by kernel_rfl)) rfl
          clear hH hA
          refine step_pure (.pointer (some ⟨wr.heap.size, 2, none⟩)) ?_ (hK.out _ (hR.keep (by decide) (by decide) (by decide)))
          clear hK
          (simp only [execOp, Act.eval, e0]; go_simp)
        · refine ⟨_, rfl, by kernel_rfl, fun Lq aq wq hi hH hA hW hR => ?_⟩
          rw [if_pos (by rfl)]
          intro K hK
          have e0 := hH.at 15 46 (.pointer (some ⟨wr.heap.size, 2, none⟩)) (by kernel_rfl) (hA 15 (by kernel_rfl)) rfl
          have e1 := hH.at 7 39 (.string ⟨(lowL b').toArray⟩) (by kernel_rfl) (hA 7 (by kernel_rfl)) rfl
          clear hH hA
          have hc := hR.2.c.c2
          have hf := hR.2.f2
          unfold Oper.wp
          simp only [execOp, Act.eval, e0, e1]
          go_simp
          exact hK.out _ (hR.s16 hi)
        · refine ⟨_, rfl, by kernel_rfl, fun Lq aq wq hi hH hA hW hR => ?_⟩
          rw [if_pos (by rfl)]
          intro K hK
          have e0 := hH.base 9 (.pointer (some ⟨wr.heap.size, 0, none⟩)) (by kernel_rfl) rfl
          clear hH hA
          refine step_pure (.pointer (some ⟨wr.heap.size, 3, none⟩)) ?_ (hK.out _ (hR.keep (by decide) (by decide) (by decide)))
          clear hK
          (simp only [execOp, Act.eval, e0]; go_simp)
        · refine ⟨_, rfl, by kernel_rfl, fun Lq aq wq hi hH hA hW hR => ?_⟩
          rw [if_pos (by rfl)]
          intro K hK
          have e0 := hH.at 17 47 (.pointer (some ⟨wr.heap.size, 3, none⟩)) (by kernel_rfl) (hA 17 (by kernel_rfl)) rfl
          have e1 := hH.at 10 42 (.string ⟨(lowL n).toArray⟩) (by kernel_rfl) (hA 10 (by kernel_rfl)) rfl
          clear hH hA
          have hc := hR.2.c.c3
          have hf := hR.2.f3
          unfold Oper.wp
          simp only [execOp, Act.eval, e0, e1]
          go_simp
          exact hK.out _ (hR.s18 hi)
      case hfin =>
        intro Lq w7 hall hR
        have g13 := hall 13 (by decide)
        have g16 := hall 16 (by decide)
        have g18 := hall 18 (by decide)
        obtain ⟨hb7, hf7⟩ := hR
        rw [selt g13, selt g16, selt g18] at hf7
        have HF7 := Lib.hid hf7
        have HB7 := Lib.hid hb7
        clear hall g13 g16 g18 hf7 hb7 d0 d1 d2 d3 HB0 HFF hwy
        simp only [List.foldl_cons, List.foldl_nil, List.getD_cons_zero, List.getD_cons_succ, List.setIfInBounds_toArray, List.set_cons_zero, List.set_cons_succ]
        have HTLo := Lib.hid (show lowT (k, (a, b'), n) = (k, (lowL a, lowL b'), lowL n) from rfl)
        have z1 : (lowL a).length ≤ 80 := by rw [lowL_len]; exact q1
        have z2 : (lowL b').length ≤ 80 := by rw [lowL_len]; exact q2
        have z3 : (lowL n).length ≤ 80 := by rw [lowL_len]; exact q3
        obtain ⟨la, hla⟩ : ∃ x, lowL a = x := ⟨_, rfl⟩
        obtain ⟨lb, hlb⟩ : ∃ x, lowL b' = x := ⟨_, rfl⟩
        obtain ⟨ln, hln⟩ : ∃ x, lowL n = x := ⟨_, rfl⟩
        rw [hla] at z1
        rw [hlb] at z2
        rw [hln] at z3
        rw [hla, hlb, hln] at HF7 HTLo
        clear HL1 HL2 HL3
        rw [hla, hlb, hln]
        clear hla hlb hln
        have HBX := Lib.hid (HBW.out.trans (HB7.out.mono HBW.out.size))
        have HBZ0 := Lib.hid (alloc_below w7 (.cells #[.int .i64 k, .string ⟨la.toArray⟩, .string ⟨lb.toArray⟩, .string ⟨ln.toArray⟩] 28))
        have HLD := Lib.hid (GRow.laid (C := tiC) tiC_len w7 [(k, (la, lb), ln)] 28 1 #[.int .i64 k, .string ⟨la.toArray⟩, .string ⟨lb.toArray⟩, .string ⟨ln.toArray⟩] rfl)
        have HFZ := Lib.hid (HF7.out.below HBZ0.out)
        have HO7 := Lib.hid (own_low HO.out HB7.out)
        have HOZ := Lib.hid (own_low HO7.out HBZ0.out)
        obtain ⟨wz, hwz⟩ : ∃ wz, w7.alloc (.cells #[.int .i64 k, .string ⟨la.toArray⟩, .string ⟨lb.toArray⟩, .string ⟨ln.toArray⟩] 28) = wz := ⟨_, rfl⟩
        rw [hwz] at HBZ0 HLD HFZ HOZ
        have HBZ := Lib.hid (HBX.out.trans (HBZ0.out.mono HBX.out.size))
        have HTX := Lib.hid (show Calls Tryz.prog 17 #[.slice (some ⟨w7.heap.size, 0, none⟩) 1 1] wz fun e w' => e = .returned (.tuple #[.string ⟨(fTx [(k, (la, lb), ln)]).1.toArray⟩, .bool (okI (k, (la, lb), ln))]) ∧ Below wz.heap.size wz w' from by
          rw [← fTx_one]
          exact Text_fwd [(k, (la, lb), ln)] _ wz HLD.out (by show (1 : Nat) ≤ 100000; omega) (fun t ht => by
            obtain rfl := List.mem_singleton.1 ht
            exact ⟨Nat.le_trans z1 (by decide), Nat.le_trans z2 (by decide), Nat.le_trans z3 (by decide)⟩) (HE2.out.below HBZ.out) (HG2.out.below HBZ.out))
        have hft := fun (h : okI (k, (la, lb), ln) = true) => fTx_okT h
        have hxl := textI_len (k, (la, lb), ln)
        simp only at hxl
        obtain ⟨Y, hY⟩ : ∃ Y, textI (k, (la, lb), ln) = Y := ⟨_, rfl⟩
        rw [hY] at hxl hft
        have HY := Lib.hid hY
        obtain ⟨X, hX⟩ : ∃ X, (fTx [(k, (la, lb), ln)]).1 = X := ⟨_, rfl⟩
        rw [hX] at HTX hft
        obtain ⟨K, hK⟩ : ∃ K, okI (k, (la, lb), ln) = K := ⟨_, rfl⟩
        rw [hK] at HTX hft
        have HKK := Lib.hid hK
        have HFT := Lib.hid hft
        obtain ⟨⟨-, e0, e1, e2, e3⟩, -⟩ := HF7.out
        obtain ⟨pv, cv, rfl⟩ := own_slice HO.out
        obtain ⟨m, hm⟩ : ∃ m, O.length = m := ⟨_, rfl⟩
        rw [hm] at HO HO7 HOZ hkl
        have HM := Lib.hid hm
        rw [hm]
        obtain ⟨JJ, hJJ⟩ : ∃ JJ, joinK (O.map textI) = JJ := ⟨_, rfl⟩
        obtain ⟨RR, hRR⟩ : ∃ RR, rowsB (O.map textI) = RR := ⟨_, rfl⟩
        have hjl : JJ.length ≤ 3410 := by
          have h1 := joinK_len (O.map textI) 340 (line_texts HOK.out)
          rw [hJJ, List.length_map, hm] at h1
          have h2 : m * (340 + 1) ≤ 10 * 341 := Nat.mul_le_mul_right _ hkl
          omega
        have hrl : RR.length ≤ 3510 := by
          have h1 := rowsB_len (O.map textI) 340 (line_texts HOK.out)
          rw [hRR, List.length_map, hm] at h1
          have h2 : m * (340 + 11) ≤ 10 * 351 := Nat.mul_le_mul_right _ hkl
          omega
        have HJJ := Lib.hid hJJ
        have HRR := Lib.hid hRR
        rw [hJJ, hRR]
        have hYl : Y.length ≤ 340 := by omega
        clear hc hx hT hmem hks hK hm hJJ hRR hX hY hok hft q1 q2 q3 z1 z2 z3
        go_wp2_with fail
        refine HTX.out.mono ?_
        rintro e w3 ⟨rfl, hb3⟩
        have HF3 := Lib.hid (HFZ.out.below hb3)
        have HO3 := Lib.hid (own_low HOZ.out hb3)
        have HB3 := Lib.hid (HBZ.out.trans (hb3.mono HBZ.out.size))
        have HS3 := Lib.hid HB3.out.size
        clear hb3 e0 e1 e2 e3
        obtain ⟨⟨-, e0, e1, e2, e3⟩, -⟩ := HF3.out
        cases K with
        | false =>
          go_wp2_with fail
          go_roundg (L.length - (i + 1))
          case rel =>
            have e : lineAll (L.take (i + 1)) = O := by
              rw [HKS.out]; unfold lineStep; rw [HTLo.out, if_neg (by rw [HKK.out]; intro h; exact absurd h.1 (by decide))]
            refine ⟨i + 1, by go_num, by omega, rfl, by rw [e, HJJ.out], by rw [e, HRR.out], ?_, HB3.out⟩
            rw [e, HM.out]
            exact HO3.out
          case measure => have := HG.out; omega
        | true =>
          obtain ⟨hX, hY0⟩ := HFT.out rfl
          subst hX
          have HGX := Lib.hid (GRow.of (C := tiC) tiC_len (show World.ownsRow w3 w2.heap.size 28 4 (.slice pv m cv) O.length (O.flatMap tiC) from by rw [HM.out]; exact HO3.out))
          have hct := Contains_tg O _ (k, (la, lb), ln) w3 HGX.out (by rw [HM.out]; omega)
          obtain ⟨C, hC⟩ : ∃ C, O.contains (k, (la, lb), ln) = C := ⟨_, rfl⟩
          rw [hC] at hct
          have HCN := Lib.hid (show Calls Tryz.prog 12 #[.slice pv m cv, .agg #[.int .i64 k, .string ⟨la.toArray⟩, .string ⟨lb.toArray⟩, .string ⟨ln.toArray⟩]] w3 fun e w' => e = .returned (.bool C) ∧ Below (World.heap w3).size w3 w' from hct)
          have HCC := Lib.hid hC
          clear hct hC
          go_wp2_with fail
          refine HCN.out.mono ?_
          rintro e w4 ⟨rfl, hb4⟩
          have HF4 := Lib.hid (HF3.out.below hb4)
          have HO4 := Lib.hid (own_low HO3.out hb4)
          have HB4 := Lib.hid (HB3.out.trans (hb4.mono HB3.out.size))
          have HS4 := Lib.hid HB4.out.size
          clear hb4 e0 e1 e2 e3
          obtain ⟨⟨-, e0, e1, e2, e3⟩, -⟩ := HF4.out
          cases C with
          | true =>
            go_wp2_with fail
            go_roundg (L.length - (i + 1))
            case rel =>
              have e : lineAll (L.take (i + 1)) = O := by
                rw [HKS.out]; unfold lineStep; rw [HTLo.out, if_neg (by rw [HCC.out]; intro h; exact absurd h.2.1 (by decide))]
              refine ⟨i + 1, by go_num, by omega, rfl, by rw [e, HJJ.out], by rw [e, HRR.out], ?_, HB4.out⟩
              rw [e, HM.out]
              exact HO4.out
            case measure => have := HG.out; omega
          | false =>
            by_cases h10 : m = 10
            · subst h10
              go_wp2_with fail
              go_roundg (L.length - (i + 1))
              case rel =>
                have e : lineAll (L.take (i + 1)) = O := by
                  rw [HKS.out]; unfold lineStep; rw [HTLo.out, if_neg (by intro h; exact h.2.2 HM.out)]
                refine ⟨i + 1, by go_num, by omega, rfl, by rw [e, HJJ.out], by rw [e, HRR.out], ?_, HB4.out⟩
                rw [e, HM.out]
                exact HO4.out
              case measure => have := HG.out; omega
            · have h10b : ((m : Int) == 10) = false := by rw [beq_eq_false_iff_ne]; omega
              have hnew : lineAll (L.take (i + 1)) = O ++ [(k, (la, lb), ln)] := by
                rw [HKS.out]; unfold lineStep; rw [HTLo.out, if_pos ⟨HKK.out, HCC.out, by rw [HM.out]; exact h10⟩]
              have HNEW := Lib.hid hnew
              have HTS := Lib.hid (fun W => Tryz.strings_TrimSuffix ⟨(Y ++ [10]).toArray⟩ ⟨#[10]⟩ W (by show (Y ++ [10]).length ≤ _; rw [List.length_append, List.length_singleton]; omega))
              rw [mk_list (Y ++ [10]), show (⟨#[10]⟩ : ByteArray).data.toList = [10] from rfl, trimSuffix_lf] at HTS
              have HRN := Lib.hid (show rowsB ((O ++ [(k, (la, lb), ln)]).map textI) = RR ++ ((Y ++ [10]) ++ [35, 32, 114, 101, 109, 97, 114, 107, 10, 10]) from by
                rw [List.map_append, List.map_cons, List.map_nil, rowsB_snoc, HRR.out, HY.out])
              have hz1 : ∀ W, (Op.stringOp .add (⟨(Y ++ [10]).toArray⟩ : ByteArray) ⟨#[35, 32, 114, 101, 109, 97, 114, 107, 10, 10]⟩).run Tryz.prog W = .ok (.string ⟨((Y ++ [10]) ++ [35, 32, 114, 101, 109, 97, 114, 107, 10, 10]).toArray⟩) W := fun W => run_string_add_lists W (Y ++ [10]) [35, 32, 114, 101, 109, 97, 114, 107, 10, 10] (by rw [List.length_append, List.length_singleton]; omega) (by decide)
              have hz2 : ∀ W, (Op.stringOp .add (⟨RR.toArray⟩ : ByteArray) ⟨((Y ++ [10]) ++ [35, 32, 114, 101, 109, 97, 114, 107, 10, 10]).toArray⟩).run Tryz.prog W = .ok (.string ⟨(RR ++ ((Y ++ [10]) ++ [35, 32, 114, 101, 109, 97, 114, 107, 10, 10])).toArray⟩) W := fun W => run_string_add_lists W RR _ (by omega) (by simp only [List.length_append, List.length_singleton]; show ((Y.length + 1 + 10 : Nat) : Int) ≤ _; omega)
              rw [← HRN.out] at hz2
              obtain ⟨R2, hR2⟩ : ∃ R2 : ByteArray, ⟨(rowsB ((O ++ [(k, (la, lb), ln)]).map textI)).toArray⟩ = R2 := ⟨_, rfl⟩
              rw [hR2] at hz2
              obtain ⟨S2, hS2⟩ : ∃ S2 : ByteArray, ⟨((Y ++ [10]) ++ [35, 32, 114, 101, 109, 97, 114, 107, 10, 10]).toArray⟩ = S2 := ⟨_, rfl⟩
              rw [hS2] at hz1 hz2
              have HR2 := Lib.hid hR2
              clear hR2 hS2 hnew
              obtain ⟨R1, hR1⟩ : ∃ R1 : ByteArray, ⟨RR.toArray⟩ = R1 := ⟨_, rfl⟩
              rw [hR1] at hz2
              rw [hR1]
              obtain ⟨S1, hS1⟩ : ∃ S1 : ByteArray, ⟨(Y ++ [10]).toArray⟩ = S1 := ⟨_, rfl⟩
              rw [hS1] at hz1 HTS
              rw [hS1]
              clear hS1 hR1
              have hYb : (⟨Y.toArray⟩ : ByteArray).size = Y.length := rfl
              obtain ⟨pv2, cv2, hpc⟩ := own_slice HO4.out
              clear hpc
              by_cases hJ0 : JJ = []
              · subst hJ0
                have hO0 : O = [] := List.map_eq_nil_iff.1 (joinK_nil (fun x hx => by
                  obtain ⟨t, ht, rfl⟩ := List.mem_map.1 hx
                  exact (fTx_okT (HOK.out t ht).1).2) HJJ.out)
                have HJN := Lib.hid (show joinK ((O ++ [(k, (la, lb), ln)]).map textI) = Y from by rw [hO0]; exact HY.out)
                have hz3 : ∀ W, (Op.stringOp .add (⟨#[]⟩ : ByteArray) ⟨Y.toArray⟩).run Tryz.prog W = .ok (.string ⟨Y.toArray⟩) W := fun W => run_string_add_lists W [] Y (by decide) (by omega)
                obtain ⟨Y1, hY1⟩ : ∃ Y1 : ByteArray, ⟨Y.toArray⟩ = Y1 := ⟨_, rfl⟩
                rw [hY1] at hz3 HTS
                have HY1 := Lib.hid hY1
                clear hY1 hO0 hYb
                go_wp2_with (first | (at_builtin; refine app_gen rfl _ _ 22 28 4 56 (.agg #[.int .i64 0, .string ⟨#[]⟩, .string ⟨#[]⟩, .string ⟨#[]⟩]) Tryz.underlying22 info28 rfl (by decide) (by decide) rfl w2.heap.size _ _ _ rfl (World.ownsRow.alloc (w := w4) HO4.out _) w4.heap.size 1 [.int .i64 k, .string ⟨la.toArray⟩, .string ⟨lb.toArray⟩, .string ⟨ln.toArray⟩] rfl rfl (cells4 _ _ _ _ _ _) (by intro u hu; simp at hu; rcases hu with rfl | rfl | rfl | rfl <;> rfl) (by omega) (by rw [World.size_alloc]; exact Nat.le_succ_of_le HS4.out) ?_; intro g' cap' w6 hown6 hgr6 hat6) | (go_at_call 23; refine (HTS.out _).mono ?_; rintro e w5 ⟨rfl, rfl⟩) | fail)
                go_roundg (L.length - (i + 1))
                case rel =>
                  refine ⟨i + 1, by go_num, by omega, rfl, by rw [HNEW.out, HJN.out, HY1.out], by rw [HNEW.out, HR2.out], ?_, (HB4.out.alloc HS4.out _).grown hgr6 (by rw [World.size_alloc]; exact Nat.le_succ_of_le HS4.out) (own_ge HO4.out)⟩
                  rw [HNEW.out, List.length_append, List.length_singleton, HM.out, flat_snoc]
                  exact hown6
                case measure => have := HG.out; omega
              · have hO0 : O ≠ [] := by
                  rintro rfl
                  exact hJ0 HJJ.out.symm
                have HJN := Lib.hid (show joinK ((O ++ [(k, (la, lb), ln)]).map textI) = (JJ ++ [44]) ++ Y from by
                  rw [List.map_append, List.map_cons, List.map_nil, joinK_snoc _ _ (by simpa using hO0), HJJ.out, HY.out]
                  simp)
                have hz3 : ∀ W, (Op.stringOp .add (⟨JJ.toArray⟩ : ByteArray) ⟨#[44]⟩).run Tryz.prog W = .ok (.string ⟨(JJ ++ [44]).toArray⟩) W := fun W => run_string_add_lists W JJ [44] (by omega) (by decide)
                have hz4 : ∀ W, (Op.stringOp .add (⟨(JJ ++ [44]).toArray⟩ : ByteArray) ⟨Y.toArray⟩).run Tryz.prog W = .ok (.string ⟨((JJ ++ [44]) ++ Y).toArray⟩) W := fun W => run_string_add_lists W (JJ ++ [44]) Y (by rw [List.length_append, List.length_singleton]; omega) (by omega)
                rw [← HJN.out] at hz4
                obtain ⟨J2, hJ2⟩ : ∃ J2 : ByteArray, ⟨(joinK ((O ++ [(k, (la, lb), ln)]).map textI)).toArray⟩ = J2 := ⟨_, rfl⟩
                rw [hJ2] at hz4
                obtain ⟨J1, hJ1⟩ : ∃ J1 : ByteArray, ⟨(JJ ++ [44]).toArray⟩ = J1 := ⟨_, rfl⟩
                rw [hJ1] at hz3 hz4
                have HJ2 := Lib.hid hJ2
                obtain ⟨j, JR, hjr⟩ := List.exists_cons_of_ne_nil hJ0
                subst hjr
                obtain ⟨Y1, hY1⟩ : ∃ Y1 : ByteArray, ⟨Y.toArray⟩ = Y1 := ⟨_, rfl⟩
                rw [hY1] at hz4 HTS
                clear hJ2 hJ1 hY1 hO0 hJ0 hYb
                go_wp2_with (first | (at_builtin; refine app_gen rfl _ _ 22 28 4 56 (.agg #[.int .i64 0, .string ⟨#[]⟩, .string ⟨#[]⟩, .string ⟨#[]⟩]) Tryz.underlying22 info28 rfl (by decide) (by decide) rfl w2.heap.size _ _ _ rfl (World.ownsRow.alloc (w := w4) HO4.out _) w4.heap.size 1 [.int .i64 k, .string ⟨la.toArray⟩, .string ⟨lb.toArray⟩, .string ⟨ln.toArray⟩] rfl rfl (cells4 _ _ _ _ _ _) (by intro u hu; simp at hu; rcases hu with rfl | rfl | rfl | rfl <;> rfl) (by omega) (by rw [World.size_alloc]; exact Nat.le_succ_of_le HS4.out) ?_; intro g' cap' w6 hown6 hgr6 hat6) | (go_at_call 23; refine (HTS.out _).mono ?_; rintro e w5 ⟨rfl, rfl⟩) | fail)
                go_roundg (L.length - (i + 1))
                case rel =>
                  refine ⟨i + 1, by go_num, by omega, rfl, by rw [HNEW.out, HJ2.out], by rw [HNEW.out, HR2.out], ?_, (HB4.out.alloc HS4.out _).grown hgr6 (by rw [World.size_alloc]; exact Nat.le_succ_of_le HS4.out) (own_ge HO4.out)⟩
                  rw [HNEW.out, List.length_append, List.length_singleton, HM.out, flat_snoc]
                  exact hown6
                case measure => have := HG.out; omega
    · have hik : i = L.length := by omega
      subst hik
      have hge : ¬ (L.length : Int) < (L.length : Int) := by omega
      obtain ⟨hok, hnd, hkl⟩ := line_take HLK.out L.length
      have hown := HO.out
      rw [List.take_length] at hok hnd hkl hown
      rw [List.take_length]
      generalize lineAll L = O at hok hnd hkl hown ⊢
      obtain ⟨ub, hub⟩ : ∃ ub, U.data.toList = ub := ⟨_, rfl⟩
      obtain ⟨O', hOO, f1, f2, f3, f4, hjl, hrl⟩ := line_fact hok hnd hkl ub
      have hOl : O.length = O'.length := by rw [hOO, List.length_map]
      have hal := addAll_len ub O' []
      have hane := addAll_ne2 ub O' []
      generalize joinK (O.map textI) = JJ at f1 hjl ⊢
      generalize rowsB (O.map textI) = RR at f2 f3 f4 hrl ⊢
      obtain ⟨m, hm⟩ : ∃ m, O.length = m := ⟨_, rfl⟩
      obtain ⟨pv, cv, rfl⟩ := own_slice hown
      rw [hm] at hown hOl hkl ⊢
      have hP1 := fun W hE hG => Parse_fwd U ⟨JJ.toArray⟩ (by omega) (by show JJ.length ≤ _; omega) W hE hG
      have hP2 := fun W hE hG => Parse_fwd U ⟨RR.toArray⟩ (by omega) (by show RR.length ≤ _; omega) W hE hG
      have hP3 := fun W hE hG => Parse_fwd U ⟨(RR ++ [97, 46, 46, 98, 10]).toArray⟩ (by omega) (by show (RR ++ [97, 46, 46, 98, 10]).length ≤ _; rw [List.length_append]; show RR.length + 5 ≤ _; omega) W hE hG
      have hP4 := fun W hE hG => Parse_fwd U ⟨([58, 100, 114, 111, 112, 58, 10] ++ RR).toArray⟩ (by omega) (by show ([58, 100, 114, 111, 112, 58, 10] ++ RR).length ≤ _; rw [List.length_append]; show 7 + RR.length ≤ _; omega) W hE hG
      simp only [mk_list, hub, f1] at hP1
      simp only [mk_list, hub, f2] at hP2
      simp only [mk_list (RR ++ [97, 46, 46, 98, 10]), hub, f3] at hP3
      simp only [mk_list ([58, 100, 114, 111, 112, 58, 10] ++ RR), hub, f4] at hP4
      have hz5 : ∀ W, (Op.stringOp .add (⟨RR.toArray⟩ : ByteArray) ⟨#[97, 46, 46, 98, 10]⟩).run Tryz.prog W = .ok (.string ⟨(RR ++ [97, 46, 46, 98, 10]).toArray⟩) W := fun W => run_string_add_lists W RR [97, 46, 46, 98, 10] (by omega) (by decide)
      have hz6 : ∀ W, (Op.stringOp .add (⟨#[58, 100, 114, 111, 112, 58, 10]⟩ : ByteArray) ⟨RR.toArray⟩).run Tryz.prog W = .ok (.string ⟨([58, 100, 114, 111, 112, 58, 10] ++ RR).toArray⟩) W := fun W => run_string_add_lists W [58, 100, 114, 111, 112, 58, 10] RR (by decide) (by omega)
      obtain ⟨S3, hS3⟩ : ∃ S3 : ByteArray, ⟨(RR ++ [97, 46, 46, 98, 10]).toArray⟩ = S3 := ⟨_, rfl⟩
      obtain ⟨S4, hS4⟩ : ∃ S4 : ByteArray, ⟨([58, 100, 114, 111, 112, 58, 10] ++ RR).toArray⟩ = S4 := ⟨_, rfl⟩
      rw [hS3] at hz5
      rw [hS4] at hz6
      simp only [hS3] at hP3
      simp only [hS4] at hP4
      obtain ⟨R1, hR1⟩ : ∃ R1 : ByteArray, ⟨RR.toArray⟩ = R1 := ⟨_, rfl⟩
      obtain ⟨J1, hJ1⟩ : ∃ J1 : ByteArray, ⟨JJ.toArray⟩ = J1 := ⟨_, rfl⟩
      rw [hR1] at hz5 hz6 ⊢
      rw [hJ1]
      simp only [hR1] at hP2
      simp only [hJ1] at hP1
      have HP1 := Lib.hid hP1
      have HP2 := Lib.hid hP2
      have HP3 := Lib.hid hP3
      have HP4 := Lib.hid hP4
      have HBW2 := Lib.hid (HB2.out.trans (HBW.out.mono HB2.out.size))
      have HEr := Lib.hid (HE2.out.below HBW.out)
      have HGr := Lib.hid (HG2.out.below HBW.out)
      clear hok hnd hown hub hOO f1 f2 f3 f4 hS3 hS4 hR1 hJ1 hP1 hP2 hP3 hP4 hm HO hjl hrl
      by_cases hO0 : O' = []
      · subst hO0
        simp only [show addAll ub [] ([] : List Tg) = [] from rfl, List.isEmpty_nil, Bool.not_true] at HP1 HP2 HP3 HP4
        obtain rfl : m = 0 := hOl
        clear hal hane
        go_wp2_with fail
        refine (HP1.out _ HEr.out HGr.out).mono ?_
        rintro e w3 ⟨v3, rfl, hr3, -, hb3⟩
        have HB3 := Lib.hid (HBW2.out.trans (hb3.mono HBW2.out.size))
        have HE3 := Lib.hid (HEr.out.below hb3)
        have HG3 := Lib.hid (HGr.out.below hb3)
        have HR3 := Lib.hid hr3
        obtain ⟨p3, c3, rfl, -⟩ := hr3
        rw [List.length_map] at HR3
        rw [List.length_map]
        clear hb3
        go_wp2_with fail
        refine (HP2.out _ HE3.out HG3.out).mono ?_
        rintro e w4 ⟨v4, rfl, hr4, -, hb4⟩
        have HB4 := Lib.hid (HB3.out.trans (hb4.mono HB3.out.size))
        have HE4 := Lib.hid (HE3.out.below hb4)
        have HG4 := Lib.hid (HG3.out.below hb4)
        have HR34 := Lib.hid (HR3.out.below hb4)
        have HR4 := Lib.hid hr4
        obtain ⟨p4, c4, rfl, -⟩ := hr4
        rw [List.length_map] at HR4
        rw [List.length_map]
        clear hb4
        go_wp2_with fail
        refine (HP3.out _ HE4.out HG4.out).mono ?_
        rintro e w5 ⟨v5, rfl, ⟨p5, c5, rfl, -⟩, -, hb5⟩
        have HB5 := Lib.hid (HB4.out.trans (hb5.mono HB4.out.size))
        have HE5 := Lib.hid (HE4.out.below hb5)
        have HG5 := Lib.hid (HG4.out.below hb5)
        have HR35 := Lib.hid (HR34.out.below hb5)
        have HR45 := Lib.hid (HR4.out.below hb5)
        clear hb5
        go_wp2_with fail
        refine (HP4.out _ HE5.out HG5.out).mono ?_
        rintro e w6 ⟨v6, rfl, ⟨p6, c6, rfl, -⟩, -, hb6⟩
        have HB6 := Lib.hid (HB5.out.trans (hb6.mono HB5.out.size))
        have HE6 := Lib.hid (HE5.out.below hb6)
        have HG6 := Lib.hid (HG5.out.below hb6)
        have HR36 := Lib.hid (HR35.out.below hb6)
        have HR46 := Lib.hid (HR45.out.below hb6)
        clear hb6
        have HEQ := Lib.hid (Equal_tg (([] : List Tg).map up) (([] : List Tg).map up) _ _ w6 HR36.out HR46.out (by rw [List.length_map]; simp) (by rw [List.length_map]; simp))
        rw [decide_eq_true rfl] at HEQ
        go_wp2_with fail
        refine HEQ.out.mono ?_
        rintro e w7 ⟨rfl, hb7⟩
        have HB7 := Lib.hid (HB6.out.trans (hb7.mono HB6.out.size))
        have HTA := Lib.hid (tells_any w7 (HE6.out.below hb7) (HG6.out.below hb7))
        clear hb7
        go_wp2_with fail
        refine HTA.out.mono ?_
        rintro e w8 ⟨rfl, hb8⟩
        have HB8 := Lib.hid (HB7.out.trans (hb8.mono HB7.out.size))
        clear hb8
        go_wp2
        go_ret
        exact ⟨rfl, HB8.out⟩
      · have hF0 := hane (.inr hO0)
        have hpos : 0 < O'.length := List.length_pos_iff.2 hO0
        obtain ⟨F, hF⟩ : ∃ F, addAll ub [] O' = F := ⟨_, rfl⟩
        rw [hF] at hF0 hal
        have hfe : F.isEmpty = false := by rw [List.isEmpty_eq_false_iff]; exact hF0
        simp only [hF, hfe, List.isEmpty_nil, Bool.not_true, Bool.not_false] at HP1 HP2 HP3 HP4
        have hFm : F.length ≤ m := by rw [List.length_nil] at hal; omega
        have hm0 : 0 < m := by omega
        have hmi : (0 : Int) < (m : Int) := by omega
        have hmd : decide ((0 : Int) < (m : Int)) = true := by rw [decide_eq_true_eq]; exact hmi
        have hFd : decide (F.length ≤ m) = true := by rw [decide_eq_true_eq]; exact hFm
        have hFi : (F.length : Int) ≤ (m : Int) := by omega
        have hFid : decide ((F.length : Int) ≤ (m : Int)) = true := by rw [decide_eq_true_eq]; exact hFi
        have hm10 : m ≤ 10 := hkl
        clear hal hane hOl hF hfe hF0 hpos hO0
        go_wp2_with fail
        refine (HP1.out _ HEr.out HGr.out).mono ?_
        rintro e w3 ⟨v3, rfl, hr3, -, hb3⟩
        have HB3 := Lib.hid (HBW2.out.trans (hb3.mono HBW2.out.size))
        have HE3 := Lib.hid (HEr.out.below hb3)
        have HG3 := Lib.hid (HGr.out.below hb3)
        have HR3 := Lib.hid hr3
        obtain ⟨p3, c3, rfl, -⟩ := hr3
        rw [List.length_map] at HR3
        rw [List.length_map]
        clear hb3
        go_wp2_with fail
        refine (HP2.out _ HE3.out HG3.out).mono ?_
        rintro e w4 ⟨v4, rfl, hr4, -, hb4⟩
        have HB4 := Lib.hid (HB3.out.trans (hb4.mono HB3.out.size))
        have HE4 := Lib.hid (HE3.out.below hb4)
        have HG4 := Lib.hid (HG3.out.below hb4)
        have HR34 := Lib.hid (HR3.out.below hb4)
        have HR4 := Lib.hid hr4
        obtain ⟨p4, c4, rfl, -⟩ := hr4
        rw [List.length_map] at HR4
        rw [List.length_map]
        clear hb4
        go_wp2_with fail
        refine (HP3.out _ HE4.out HG4.out).mono ?_
        rintro e w5 ⟨v5, rfl, ⟨p5, c5, rfl, -⟩, -, hb5⟩
        have HB5 := Lib.hid (HB4.out.trans (hb5.mono HB4.out.size))
        have HE5 := Lib.hid (HE4.out.below hb5)
        have HG5 := Lib.hid (HG4.out.below hb5)
        have HR35 := Lib.hid (HR34.out.below hb5)
        have HR45 := Lib.hid (HR4.out.below hb5)
        clear hb5
        go_wp2_with fail
        refine (HP4.out _ HE5.out HG5.out).mono ?_
        rintro e w6 ⟨v6, rfl, ⟨p6, c6, rfl, -⟩, -, hb6⟩
        have HB6 := Lib.hid (HB5.out.trans (hb6.mono HB5.out.size))
        have HE6 := Lib.hid (HE5.out.below hb6)
        have HG6 := Lib.hid (HG5.out.below hb6)
        have HR36 := Lib.hid (HR35.out.below hb6)
        have HR46 := Lib.hid (HR45.out.below hb6)
        clear hb6
        have HEQ := Lib.hid (Equal_tg (F.map up) (F.map up) _ _ w6 HR36.out HR46.out (by rw [List.length_map]; omega) (by rw [List.length_map]; omega))
        rw [decide_eq_true rfl] at HEQ
        go_wp2_with fail
        refine HEQ.out.mono ?_
        rintro e w7 ⟨rfl, hb7⟩
        have HB7 := Lib.hid (HB6.out.trans (hb7.mono HB6.out.size))
        have HTA := Lib.hid (tells_any w7 (HE6.out.below hb7) (HG6.out.below hb7))
        clear hb7
        go_wp2_with fail
        refine HTA.out.mono ?_
        rintro e w8 ⟨rfl, hb8⟩
        have HB8 := Lib.hid (HB7.out.trans (hb8.mono HB7.out.size))
        clear hb8
        go_wp2
        go_ret
        exact ⟨rfl, HB8.out⟩
end Go.Proofs.YtkoncmmbdlnmfaaGreatDoor
