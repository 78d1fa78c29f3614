/- What the law's reference teller hands back, for bytes below 256. -/
import Derived.Test.YthnohioamefbmaaDoorRef
namespace Go.Proofs.YthnohioamefbmaaDoor
open Go.RowKit Go.Lib
set_option linter.unusedSimpArgs false
set_option linter.unusedVariables false

/-- the number of so many bits from k on. -/
def grp (l : List Nat) (k : Nat) : Nat → Nat
  | 0 => 0
  | j + 1 => 2 * grp l k j + bitN l (k + j)
theorem grp_lt (l : List Nat) (k : Nat) : ∀ j, grp l k j < 2 ^ j
  | 0 => by simp [grp]
  | j + 1 => by
    have := grp_lt l k j
    have h : bitN l (k + j) < 2 := Nat.mod_lt _ (by omega)
    simp only [grp, Nat.pow_succ]
    omega
def refGroups (l : List Nat) (t q : Nat) : List Nat := (List.range q).map fun i => grp l (i * t) t
def refTell (l : List Nat) (t : Nat) : List UInt8 := padL (if t = 6 then 4 else 1) ((refGroups l t ((8 * l.length + t - 1) / t)).map (lt (lettersOf t)))

theorem bit_at (sv : Value) (l : List Nat) (k j : Nat) (w : World) (hsv : Bytes w sv l) (hl : l.length ≤ 1000000) (hk : k + j ≤ 100000000) (hlf : ∀ x ∈ l, x < 256) :
    Calls Tryd.prog 23 #[sv, .int .i64 ((k : Int) + j)] w fun e w' => e = .returned (.int .i64 (bitN l (k + j) : Nat)) ∧ w = w' := by
  have := bit_any sv l (k + j) w hsv hl hk hlf
  rwa [Int.natCast_add] at this

def GroupRel (w : World) (l : List Nat) (t : Nat) (v5 v6 : Value) (W : World) : Prop :=
  ∃ i k : Nat, k = i * t ∧ v6 = .int .i64 k ∧ k < 8 * l.length + t ∧ Below w.heap.size w W ∧ W.ownsRow w.heap.size 5 1 v5 i ((refGroups l t i).map fun n => Value.int .u8 (lt (lettersOf t) n).toNat)
def AccRel (l : List Nat) (k t g : Nat) (v7 v8 : Value) : Prop := ∃ j : Nat, j ≤ t ∧ g = t - j ∧ v8 = .int .i64 j ∧ v7 = .int .i64 (grp l k j : Nat)

theorem ceil_eq (t len i : Nat) (ht : 0 < t) (h1 : 8 * len ≤ i * t) (h2 : i * t < 8 * len + t) : (8 * len + t - 1) / t = i := by
  rw [Nat.div_eq_of_lt_le]
  · omega
  · rw [Nat.add_mul]; omega
def u8v (b : UInt8) : Value := .int .u8 (b.toNat : Int)
theorem own_form {w : World} {B n : Nat} {v : Value} {xs : List Value} (h : w.ownsRow B 5 1 v n xs) : ∃ q c, v = .slice q n c := by
  obtain ⟨_, ⟨rfl, h⟩ | ⟨g, cap, cur, rfl, _⟩⟩ := h
  · exact ⟨none, 0, by rw [h]⟩
  · exact ⟨_, _, rfl⟩
theorem conv_own {w : World} {B n : Nat} {q : Option Addr} {c : Nat} {l : List UInt8} (hn : l.length = n) (h : w.ownsRow B 5 1 (.slice q n c) n (l.map u8v)) :
    (convert 22 9 (.slice q n c)).run Tryd.prog w = .ok (.string ⟨l.toArray⟩) w := by
  have hb : Bytes w (.slice q n c) (l.map UInt8.toNat) := by
    refine Bytes.of_owns (by simpa using hn) (B := B) (n := n) ?_
    rw [List.map_map]
    exact h
  obtain ⟨p, cap, he, hh⟩ := hb
  cases he
  have hx : ((l.map UInt8.toNat).map fun (x : Nat) => (x : Int)).length = (l.map UInt8.toNat).length := by simp
  have hin : Lib.BytesIn w q (l.map UInt8.toNat).length ((l.map UInt8.toNat).map fun (x : Nat) => (x : Int)) := by
    intro hpos
    rcases hh with hz | ⟨b, o, hq, _, hc⟩
    · rw [hz] at hpos; simp at hpos
    · refine ⟨b, o, hq, fun i hi => ?_⟩
      rw [hc i hi]
      have hi' : i < l.length := by simpa using hi
      simp [List.getD_eq_getElem?_getD, hi']
  have := hin.convert hx c 22 5 9 Tryd.underlying22 Tryd.underlying5 Tryd.underlying9
  rw [this]
  have e : ((l.map UInt8.toNat).map fun (x : Nat) => (x : Int)).map (fun n => UInt8.ofNat n.toNat) = l := by
    rw [List.map_map, List.map_map]
    conv => rhs; rw [← List.map_id l]
    exact List.map_congr_left fun x _ => by simp
  exact congrArg (fun x : List UInt8 => Result.ok (Value.string ⟨x.toArray⟩) w) e

def PadOwn (w : World) (base : List UInt8) (fi g : Nat) (v5 : Value) (W : World) : Prop :=
  ∃ j, g = (fi - base.length % fi) % fi - j ∧ j ≤ (fi - base.length % fi) % fi ∧ Below w.heap.size w W ∧ W.ownsRow w.heap.size 5 1 v5 (base.length + j) ((base ++ List.replicate j 61).map u8v)

set_option maxRecDepth 100000 in
set_option maxHeartbeats 2000000 in
theorem refTell_any (sv : Value) (len : Nat) (l : List Nat) (hln : l.length = len) (t : Nat) (ht : IsKind t) (w : World) (hsv : Bytes w sv l) (hl : len ≤ 1000000) (hlf : ∀ x ∈ l, x < 256) (p : Option Addr) (cap : Nat) (hp : sv = .slice p len cap) :
    Calls Tryd.prog 9 #[.slice p len cap, .int .i64 (t : Int)] w fun e w' => e = .returned (.string ⟨(refTell l t).toArray⟩) ∧ Below w.heap.size w w' := by
  have hls := letters_size t ht
  have ht4 : 4 ≤ t ∧ t ≤ 6 := by rcases ht with rfl | rfl | rfl <;> omega
  have HSV := Lib.hid hsv
  have HP := Lib.hid hp
  have HLF := Lib.hid hlf
  have HLN := Lib.hid hln
  clear hsv hp hlf hln
  go_enter Tryd.func9, Tryd.ntmps9
  go_wp2_with fail
  go_loopw [5, 6] (fun v5 v6 W => GroupRel w l t v5 v6 W) (fun _ i _ => 8 * len + 7 - (intOf i).toNat)
  case atStart => exact ⟨0, 0, by omega, rfl, by omega, Below.refl _ _, by simp [World.ownsRow, refGroups]⟩
  case round =>
    obtain ⟨i, k, hk, rfl, hkl, hbel, hown⟩ := hrel
    have HK := Lib.hid hk
    clear hk
    have hkl' : k < 8 * len + t := by rw [HLN.out] at hkl; exact hkl
    clear hkl
    by_cases hlt : k < 8 * len
    · have hltb : decide ((k : Int) < 8 * (len : Int)) = true := by simp; omega
      go_wp2_with fail
      go_loopg [7, 8] t (fun g v7 v8 W => AccRel l k t g v7 v8 ∧ wr = W)
      case atStart => exact ⟨⟨0, by omega, by omega, rfl, rfl⟩, rfl⟩
      case round =>
        obtain ⟨⟨j, hj, hjg, rfl, rfl⟩, rfl⟩ := hrel
        by_cases hjt : j < t
        · have hB := bit_at (.slice p len cap) l k j wr (by rw [← HP.out]; exact HSV.out.below hbel) (by rw [HLN.out]; omega) (by omega) HLF.out
          have hg := grp_lt l k j
          have hg2 : (2:Nat) ^ j ≤ 2 ^ 6 := Nat.pow_le_pow_right (by omega) (by omega)
          have hb2 : bitN l (k + j) < 2 := Nat.mod_lt _ (by omega)
          have HE : Hid (grp l k (j + 1) = 2 * grp l k j + bitN l (k + j)) := rfl
          have HJG := Lib.hid hjg
          clear hjg
          generalize grp l k j = n at *
          generalize bitN l (k + j) = b at *
          go_wp2_with (go_at_call 23; refine hB.mono ?_; rintro e w' ⟨rfl, rfl⟩)
          go_roundg (t - (j + 1))
          case rel => exact ⟨⟨j + 1, by omega, rfl, by go_num, by rw [HE.out]; simp⟩, rfl⟩
          case measure => have := HJG.out; omega
        · obtain rfl : j = t := by omega
          clear hjg
          have hg := grp_lt l k j
          have hL := letters_any j ht
          have hgl := fun n h => lt_get (lettersOf j) n h
          have HO := Lib.hid (show refGroups l j (i + 1) = refGroups l j i ++ [grp l (i * j) j] by unfold refGroups; rw [List.range_succ, List.map_append]; rfl)
          rw [← HK.out] at HO
          have HGL := Lib.hid hgl
          clear hgl
          have hn64 : grp l k j < (lettersOf j).size := by omega
          clear hg hls
          generalize grp l k j = n at *
          have hii : i + 1 ≤ 140737488355328 := by
            have h1 := HK.out
            have h2 : i * 4 ≤ i * j := Nat.mul_le_mul_left _ ht4.1
            omega
          go_wp2_with (first | (go_at_call 24; refine (hL _).mono ?_; rintro e w' ⟨rfl, rfl⟩) | (at_builtin; go_must (refine app_byte rfl _ _ rfl w.heap.size _ _ _ rfl (hown.alloc _) ⟨wr.heap.size, 0, none⟩ 1 (.int .u8 ((lettersOf j)[n].toNat : Int)) rfl ?_ rfl ?_ ?_ ?_; exact new_cell _ _ _; exact hii; (rw [World.size_alloc]; exact Nat.le_succ_of_le hbel.size); intro g cap w' hown' hgr)))
          go_roundw
          case rel =>
            have h1 := HK.out
            have hw : w.heap.size ≤ (wr.alloc (.cells #[.int .u8 ((lettersOf j)[n].toNat : Int)] 5)).heap.size := by rw [World.size_alloc]; exact Nat.le_succ_of_le hbel.size
            refine ⟨i + 1, k + j, by rw [h1, Nat.add_mul]; simp, by go_num, by rw [HLN.out]; omega, (hbel.alloc hbel.size _).grown hgr hw (own_base hown), ?_⟩
            rw [HO.out, List.map_append]
            have := HGL.out n hn64
            simp only [List.map_cons, List.map_nil]
            rw [← this]
            exact hown'
          case measure => simp [intOf]; omega
    · have HPAD : Hid (refTell l t = padL (if t = 6 then 4 else 1) ((refGroups l t i).map (lt (lettersOf t)))) := by
        have h1 := HK.out
        have h2 : (8 * l.length + t - 1) / t = i := by
          rw [HLN.out]
          exact ceil_eq t len i (by omega) (by omega) (by rw [← h1]; omega)
        unfold refTell
        rw [h2]
        exact rfl
      have HBL : Hid (((refGroups l t i).map (lt (lettersOf t))).length = i) := by unfold Hid; simp [refGroups]
      have hmm : ((refGroups l t i).map fun n => Value.int .u8 ((lt (lettersOf t) n).toNat : Int)) = ((refGroups l t i).map (lt (lettersOf t))).map u8v := by simp [u8v]
      rw [hmm] at hown
      clear hmm
      have hib : i ≤ 10000000 := by
        have h1 := HK.out
        have h2 : i * 4 ≤ i * t := Nat.mul_le_mul_left _ ht4.1
        omega
      generalize (refGroups l t i).map (lt (lettersOf t)) = base at *
      have hbl : base.length ≤ 10000000 := by rw [HBL.out]; exact hib
      have HOWN := Lib.hid hown
      clear hown
      go_wp2_with fail
      rcases ht with rfl | rfl | rfl
      · go_loopg [5] 0 (fun g v5 W => PadOwn w base 1 g v5 W)
        case atStart => exact ⟨0, by omega, by omega, hbel, by have := HOWN.out; rw [← HBL.out] at this; simpa using this⟩
        case round =>
          obtain ⟨j, hjg, hj, hbel2, hown2⟩ := hrel
          obtain rfl : j = 0 := by omega
          obtain ⟨q, c5, rfl⟩ := own_form hown2
          have hcv := conv_own (l := base ++ List.replicate 0 61) (by simp) hown2
          simp only [List.replicate_zero, List.append_nil, Nat.add_zero] at hcv hown2
          have HPP := HPAD.out
          have hfin : padL 1 base = base := by unfold padL; rw [Nat.mod_one]; exact List.append_nil _
          have HFI := Lib.hid hfin
          clear hfin hjg
          go_wp2
          go_ret
          exact ⟨congrArg (fun l : List UInt8 => Ending.returned (.string ⟨l.toArray⟩)) (HPP.trans HFI.out).symm, hbel2⟩
      · go_loopg [5] ((4 - base.length % 4) % 4) (fun g v5 W => PadOwn w base 4 g v5 W)
        case atStart => exact ⟨0, by omega, by omega, hbel, by have := HOWN.out; rw [← HBL.out] at this; simpa using this⟩
        case round =>
          obtain ⟨j, hjg, hj, hbel2, hown2⟩ := hrel
          have HJ := Lib.hid hjg
          clear hjg
          obtain ⟨q, c5, rfl⟩ := own_form hown2
          have hcv := conv_own (l := base ++ List.replicate j 61) (by simp) hown2
          by_cases hz : (base.length + j) % 4 = 0
          · have hpe := pad_end 4 base.length j (by omega) (by omega) hj hz
            have HFI : Hid (padL 4 base = base ++ List.replicate j 61) := by unfold padL; rw [← hpe]; exact rfl
            clear hpe
            have ht1 : (((base.length : Int) + j) % 4 != 0) = false := by rw [bne_eq_false_iff_eq]; omega
            have HPP := HPAD.out
            have HPP' := Lib.hid HPP
            clear HPP
            go_wp2
            go_ret
            exact ⟨congrArg (fun l : List UInt8 => Ending.returned (.string ⟨l.toArray⟩)) (HPP'.out.trans HFI.out).symm, hbel2⟩
          · have hps := pad_step 4 base.length j (by omega) (by omega) hj hz
            have ht1 : (((base.length : Int) + j) % 4 != 0) = true := by rw [bne_iff_ne]; omega
            clear hcv
            go_wp2_with (at_builtin; go_must (refine app_byte rfl _ _ rfl w.heap.size _ _ _ rfl (hown2.alloc _) ⟨wr.heap.size, 0, none⟩ 1 (.int .u8 61) rfl ?_ rfl ?_ ?_ ?_; exact new_cell _ _ _; omega; (rw [World.size_alloc]; exact Nat.le_succ_of_le hbel2.size); intro g cap2 w' hown' hgr))
            go_roundg ((4 - base.length % 4) % 4 - (j + 1))
            case measure => have := HJ.out; omega
            case rel =>
              have hw : w.heap.size ≤ (wr.alloc (.cells #[.int .u8 61] 5)).heap.size := by rw [World.size_alloc]; exact Nat.le_succ_of_le hbel2.size
              refine ⟨j + 1, rfl, hps, (hbel2.alloc hbel2.size _).grown hgr hw (own_base hown2), ?_⟩
              have e : (base ++ List.replicate (j + 1) 61).map u8v = (base ++ List.replicate j 61).map u8v ++ [Value.int .u8 61] := by
                rw [List.replicate_succ', ← List.append_assoc, List.map_append]; rfl
              rw [e]
              exact hown'
      · go_loopg [5] 0 (fun g v5 W => PadOwn w base 1 g v5 W)
        case atStart => exact ⟨0, by omega, by omega, hbel, by have := HOWN.out; rw [← HBL.out] at this; simpa using this⟩
        case round =>
          obtain ⟨j, hjg, hj, hbel2, hown2⟩ := hrel
          obtain rfl : j = 0 := by omega
          obtain ⟨q, c5, rfl⟩ := own_form hown2
          have hcv := conv_own (l := base ++ List.replicate 0 61) (by simp) hown2
          simp only [List.replicate_zero, List.append_nil, Nat.add_zero] at hcv hown2
          have HPP := HPAD.out
          have hfin : padL 1 base = base := by unfold padL; rw [Nat.mod_one]; exact List.append_nil _
          have HFI := Lib.hid hfin
          clear hfin hjg
          go_wp2
          go_ret
          exact ⟨congrArg (fun l : List UInt8 => Ending.returned (.string ⟨l.toArray⟩)) (HPP.trans HFI.out).symm, hbel2⟩
end Go.Proofs.YthnohioamefbmaaDoor
