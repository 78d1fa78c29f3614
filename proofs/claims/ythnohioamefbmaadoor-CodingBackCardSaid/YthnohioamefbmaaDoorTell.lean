/- What the tellers of bytes as letters hand back, for at most 100000 bytes. -/
import Derived.Test.YthnohioamefbmaaDoorShelf
import Derived.Test.YthnohioamefbmaaDoorBits
import Derived.Deep.QuietTactic
import Derived.BigQuiet
namespace Go.Proofs.YthnohioamefbmaaDoor
open Go.RowKit Go.Lib
set_option linter.unusedSimpArgs false
set_option linter.unusedVariables false

set_option maxHeartbeats 400000 in
theorem put_any (B b kb : Nat) (ls : ByteArray) (l : List UInt8) (c : Nat) (W : World)
    (hk : W.cell? ⟨kb, 0, none⟩ = some (.string ls))
    (hb : IsBuilder 58 5 B b (byteCells l) W) (hc : c < ls.size) (hlen : l.length + 1 ≤ 140737488355328) (hB : B ≤ W.heap.size) :
    Calls Tryd.prog 36 #[.int .u8 (c : Int), .pointer (some ⟨b, 0, none⟩), .pointer (some ⟨kb, 0, none⟩)] W fun e w' =>
      e = .returned (.tuple #[]) ∧ BuilderAt 58 5 B b (.pointer (some ⟨b, 0, none⟩)) (byteCells (l ++ [ls[c]])) w' ∧ Below B W w' := by
  have HB := Lib.hid hb
  clear hb
  go_enter Tryd.func36, Tryd.ntmps36
  go_wp2_with fail
  refine (Tryd.Builder_WriteByte B b _ _ _ HB.out ?_ hB).mono ?_
  · simp [byteCells]; omega
  rintro e w1 ⟨rfl, h1, h2⟩
  go_wp2
  go_end0
  refine ⟨rfl, ?_, h2⟩
  simpa [byteCells] using h1

def kindW (ls : ByteArray) (bi fi : Nat) (w : World) : World := w.alloc (Obj.cells #[Value.string ls, Value.int IntKind.i64 ↑bi, Value.int IntKind.i64 ↑fi] 52)
theorem kind_cells (ls : ByteArray) (bi fi : Nat) (w W W' : World) (o : Obj) (hW' : W' = (kindW ls bi fi w).alloc o) (h : Below (w.heap.size + 1) W' W) :
    W.cell? ⟨w.heap.size, 0, none⟩ = some (.string ls) ∧ W.cell? ⟨w.heap.size, 1, none⟩ = some (.int .i64 bi) ∧ W.cell? ⟨w.heap.size, 2, none⟩ = some (.int .i64 fi) ∧
    (∀ b o, b < w.heap.size → W.cell? ⟨b, o, none⟩ = w.cell? ⟨b, o, none⟩) ∧ Below w.heap.size w W ∧ w.heap.size + 2 ≤ W.heap.size := by
  subst hW'
  have hb : Below w.heap.size w W := (((Below.refl _ w).alloc (Nat.le_refl _) _).alloc (by simp) _).trans (h.mono (by omega))
  have hs := h.size
  refine ⟨?_, ?_, ?_, fun b o hlt => hb.cell (p := ⟨b, o, none⟩) hlt, hb, by simpa [kindW] using hs⟩
  · rw [h.cell (p := ⟨w.heap.size, 0, none⟩) (by simp)]; simp [kindW]
  · rw [h.cell (p := ⟨w.heap.size, 1, none⟩) (by simp)]; simp [kindW]
  · rw [h.cell (p := ⟨w.heap.size, 2, none⟩) (by simp)]; simp [kindW]

def TellI (B b : Nat) (ls : ByteArray) (w1 : World) (out : List Nat) (W : World) : Prop :=
  IsBuilder 58 5 B b (byteCells (out.map (lt ls))) W ∧ Below B w1 W ∧ B ≤ W.heap.size

theorem byteCells_len (l : List UInt8) : (byteCells l).length = l.length := by simp [byteCells]

theorem put_I (ls : ByteArray) (bi fi len : Nat) (hlen : len ≤ 100000) (hls : 2 ^ bi ≤ ls.size) (w : World) (o : Obj) (B : Nat) (hB : B = w.heap.size + 1) (out : List Nat) (c : Nat) (W : World)
    (hI : TellI B B ls ((kindW ls bi fi w).alloc o) out W) (hc : c < 2 ^ bi) (hout : out.length + 1 ≤ 3 * len) :
    Calls Tryd.prog 36 (#[.int .u8 (c : Int)] ++ #[Value.pointer (some ⟨B, 0, none⟩), Value.pointer (some ⟨w.heap.size, 0, none⟩)]) W fun e w' =>
      e = .returned (.tuple #[]) ∧ TellI B B ls ((kindW ls bi fi w).alloc o) (out ++ [c]) w' := by
  subst hB
  obtain ⟨h1, h2, h3⟩ := hI
  have hk := kind_cells ls bi fi w W _ o rfl h2
  refine (put_any _ _ _ ls _ c W hk.1 h1 (by omega) (by simp; omega) h3).mono ?_
  rintro e w' ⟨rfl, h4, h5⟩
  refine ⟨rfl, .inr ?_, h2.trans h5, Nat.le_trans h3 h5.size⟩
  rw [lt_get ls c (by omega)] at h4
  simpa using h4


theorem second_block (ls : ByteArray) (bi fi : Nat) (w : World) (o : Obj) : ((kindW ls bi fi w).alloc o).heap[w.heap.size + 1]? = some o := by
  have e : (kindW ls bi fi w).heap.size = w.heap.size + 1 := by simp [kindW]
  show ((kindW ls bi fi w).heap.push o)[w.heap.size + 1]? = _
  rw [← e]
  exact Array.getElem?_push_size
theorem pad_step (fi n j : Nat) (hfi : 1 ≤ fi) (hfi' : fi ≤ 4) (hj : j ≤ (fi - n % fi) % fi) (h : (n + j) % fi ≠ 0) : j + 1 ≤ (fi - n % fi) % fi := by
  have h4 : fi = 1 ∨ fi = 2 ∨ fi = 3 ∨ fi = 4 := by omega
  rcases h4 with rfl | rfl | rfl | rfl <;> omega
theorem pad_end (fi n j : Nat) (hfi : 1 ≤ fi) (hfi' : fi ≤ 4) (hj : j ≤ (fi - n % fi) % fi) (h : (n + j) % fi = 0) : j = (fi - n % fi) % fi := by
  have h4 : fi = 1 ∨ fi = 2 ∨ fi = 3 ∨ fi = 4 := by omega
  rcases h4 with rfl | rfl | rfl | rfl <;> omega

theorem bdrew (B : Nat) (w : World) (n : Nat) : Below B w (w.drewN n) := ⟨rfl, rfl, rfl, Nat.le_refl _, fun _ _ => rfl⟩
theorem len_at {B b : Nat} {o : List UInt8} {j : Nat} {W : World} (h : IsBuilder 58 5 B b (byteCells (o ++ List.replicate j 61)) W) (n : Nat) :
    Calls Tryd.prog 38 #[.pointer (some ⟨b, 0, none⟩)] (W.drewN n) fun e w' => e = .returned (.int .i64 ((o.length : Int) + j)) ∧ w' = W.drewN n :=
  (Tryd.Builder_Len B b _ (W.drewN n) h).mono fun _ _ ⟨he, hw⟩ => ⟨by rw [he]; simp [byteCells_len], hw⟩
def PadRel (B fi : Nat) (w1 : World) (o : List UInt8) (k : Nat) (W : World) : Prop :=
  ∃ j, k = (fi - o.length % fi) % fi - j ∧ j ≤ (fi - o.length % fi) % fi ∧ IsBuilder 58 5 B B (byteCells (o ++ List.replicate j 61)) W ∧ Below B w1 W ∧ B ≤ W.heap.size

set_option maxHeartbeats 1000000 in
theorem tell_any (ls : ByteArray) (bi fi : Nat) (hbi : 4 ≤ bi) (hbi' : bi ≤ 8) (hls : 2 ^ bi ≤ ls.size) (hfi : 1 ≤ fi) (hfi' : fi ≤ 4)
    (sv : Value) (len : Nat) (l : List Nat) (hl : l.length = len) (hlen : len ≤ 100000) (w : World) (hlf : ∀ x ∈ l, x < 256) (hsv : Bytes w sv l) :
    Calls Tryd.prog 25 #[.agg #[.string ls, .int .i64 (bi : Int), .int .i64 (fi : Int)], sv] w fun e w' =>
      e = .returned (.string ⟨(tellL ls bi fi l).toArray⟩) ∧ Below w.heap.size w w' := by
  have hB := bits_all 36 #[Value.pointer (some ⟨w.heap.size + 1, 0, none⟩), Value.pointer (some ⟨w.heap.size, 0, none⟩)]
    (TellI (w.heap.size + 1) (w.heap.size + 1) ls ((kindW ls bi fi w).alloc (Obj.cells #[Value.pointer none, Value.slice none 0 0] 58))) 8 bi sv l w
    ((kindW ls bi fi w).alloc (Obj.cells #[Value.pointer none, Value.slice none 0 0] 58)) hsv (by omega) hbi hbi' (by omega) (by omega) hlf (enters_of Tryd.func36 (by kernel_rfl) rfl)
    (fun out c W hI hc ho => put_I ls bi fi len hlen hls w _ _ rfl out c W hI hc (by rw [← hl]; exact ho))
    (fun out W hI => hsv.below (kind_cells ls bi fi w W _ _ rfl hI.2.1).2.2.2.2.1)
    ⟨.inl ⟨Nat.le_refl _, .slice none 0 0, second_block ls bi fi w _, by simp [byteCells, World.ownsRow], by simp [Value.ownBlock]⟩, Below.refl _ _, by simp [kindW]⟩
  have hinv := regroup_inv 8 bi hbi (by omega) hbi' l 0 0 (by simpa using hlf) (by simp) (by omega)
  have hrl := regroup_bits 8 bi l 0 0
  rw [hl] at hrl
  unfold tellL
  generalize regroup 8 bi l 0 0 = R at *
  obtain ⟨out, r, m⟩ := R
  simp only at hB hinv hrl ⊢
  obtain ⟨hr, hm, -⟩ := hinv
  have h256 : (2 : Nat) ^ m ≤ 2 ^ 8 := Nat.pow_le_pow_right (by omega) (by omega)
  have er : r % 256 = r := by omega
  rw [er] at hB
  clear er
  have HP := Lib.hid (fun (W : World) (c : Nat) hI hc ho => put_I ls bi fi len hlen hls w (Obj.cells #[Value.pointer none, Value.slice none 0 0] 58) _ rfl out c W hI hc ho)
  clear hl hlf hsv
  have HB := Lib.hid hB
  clear hB
  have hol : 4 * out.length ≤ bi * out.length := Nat.mul_le_mul_right _ hbi
  have HT : Hid (tellO ls bi out r m = out.map (lt ls) ++ (if 0 < m then [lt ls (r * 2 ^ (bi - m))] else [])) := rfl
  generalize tellO ls bi out r m = o at *
  have hoo : o.length ≤ out.length + 1 := by rw [HT.out]; split <;> simp
  go_enter Tryd.func25, Tryd.ntmps25
  go_wp2_with fail
  refine HB.out.mono ?_
  rintro e w1 ⟨rfl, hI⟩
  have hkc := kind_cells ls bi fi w w1 _ _ rfl hI.2.1
  obtain ⟨-, k1, k2, -, hbw, hsz⟩ := hkc
  by_cases hm0 : 0 < m
  · have hpow := shl_byte r m bi hr (by omega) hbi'
    have hpow2 : (2 : Nat) ^ bi ≤ 2 ^ 8 := Nat.pow_le_pow_right (by omega) (by omega)
    have e1 : ((r : Int) * 2 ^ (bi - m) % 256) = ((r * 2 ^ (bi - m) : Nat) : Int) := by
      rw [show ((r : Int) * 2 ^ (bi - m)) = ((r * 2 ^ (bi - m) : Nat) : Int) from by simp]
      generalize r * 2 ^ (bi - m) = q at *
      omega
    have E1 := Lib.hid e1
    clear e1
    go_wp2_with fail
    rw [E1.out]
    refine (HP.out w1 _ hI hpow (by omega)).mono ?_
    rintro e w2 ⟨rfl, hI2⟩
    have hkc := kind_cells ls bi fi w w2 _ _ rfl hI2.2.1
    obtain ⟨-, k1', k2', -, hbw', hsz'⟩ := hkc
    clear k1 k2
    have hO : IsBuilder 58 5 (w.heap.size + 1) (w.heap.size + 1) (byteCells (o ++ List.replicate 0 61)) w2 := by
      have := hI2.1
      rw [HT.out, if_pos hm0]
      simpa [TellI] using this
    have HO := Lib.hid hO
    clear hO
    have HI := hI2.2.1
    go_wp2_with fail
    go_loopg [28] ((fi - o.length % fi) % fi) (fun k _ W => PadRel (w.heap.size + 1) fi w2 o k W)
    case atStart => exact ⟨0, by simp, by omega, HO.out, Below.refl _ _, by omega⟩
    case round =>
      obtain ⟨j, hj, hj2, hIB, hbl, hsz2⟩ := hrel
      have HJ := Lib.hid hj
      clear hj
      have hkc := kind_cells ls bi fi w wr _ _ rfl (HI.trans hbl)
      obtain ⟨-, -, k2'', -, hbw'', hsz''⟩ := hkc
      have hL := len_at hIB
      have hf4 := Nat.mod_lt (fi - o.length % fi) (show 0 < fi by omega)
      have hjo : o.length + j ≤ 1000000 := by omega
      go_wp2_with fail
      go_quiet ((go_at_call 38; exact Calls.quiet_of_same (hL _)))
      go_wp2_with fail
      · have ht : (((o.length : Int) + j) % fi != 0) = true := by assumption
        have hne : ((o.length : Int) + j) % fi ≠ 0 := by simpa using ht
        have hne' : (o.length + j) % fi ≠ 0 := by
          intro h
          exact hne (by exact_mod_cast h)
        have hps := pad_step fi o.length j hfi hfi' hj2 hne'
        refine (Tryd.Builder_WriteByte (w.heap.size + 1) _ _ _ (wr.drewN nq) hIB (by rw [byteCells_len]; simp; omega) hsz2).mono ?_
        rintro e w3 ⟨rfl, h1, h2⟩
        go_wp2_with fail
        go_roundg ((fi - o.length % fi) % fi - (j + 1))
        case measure => have := HJ.out; omega
        case rel =>
          have hbn : Below (w.heap.size + 1) w2 w3 := hbl.trans (Below.trans (bdrew _ _ _) h2)
          exact ⟨j + 1, rfl, hps, .inr (by rw [List.replicate_succ', ← List.append_assoc]; simpa [byteCells] using h1), hbn, Nat.le_trans hsz2 h2.size⟩
      · have ht : (((o.length : Int) + j) % fi != 0) = false := by assumption
        have he : ((o.length : Int) + j) % fi = 0 := by simpa using ht
        have he' : (o.length + j) % fi = 0 := by exact_mod_cast he
        have hpe := pad_end fi o.length j hfi hfi' hj2 he'
        have HPE : Hid (padL fi o = o ++ List.replicate j 61) := by unfold padL; rw [← hpe]; exact rfl
        clear hpe
        refine (Tryd.Builder_String_any (w.heap.size + 1) _ _ (wr.drewN nq) hIB hsz2).mono ?_
        rintro e w3 ⟨rfl, h2⟩
        go_wp2_with fail
        go_ret
        exact ⟨congrArg (fun l : List UInt8 => Ending.returned (.string ⟨l.toArray⟩)) HPE.out.symm, hbw''.trans (Below.trans (bdrew _ _ _) (h2.mono (by omega)))⟩
  · obtain rfl : m = 0 := by omega
    have hO : IsBuilder 58 5 (w.heap.size + 1) (w.heap.size + 1) (byteCells (o ++ List.replicate 0 61)) w1 := by
      have := hI.1
      rw [HT.out]
      simpa using this
    have HO := Lib.hid hO
    clear hO
    have HI := hI.2.1
    clear k1 k2
    go_wp2_with fail
    go_loopg [28] ((fi - o.length % fi) % fi) (fun k _ W => PadRel (w.heap.size + 1) fi w1 o k W)
    case atStart => exact ⟨0, by simp, by omega, HO.out, Below.refl _ _, by omega⟩
    case round =>
      obtain ⟨j, hj, hj2, hIB, hbl, hsz2⟩ := hrel
      have HJ := Lib.hid hj
      clear hj
      have hkc := kind_cells ls bi fi w wr _ _ rfl (HI.trans hbl)
      obtain ⟨-, -, k2'', -, hbw'', hsz''⟩ := hkc
      have hL := len_at hIB
      have hf4 := Nat.mod_lt (fi - o.length % fi) (show 0 < fi by omega)
      have hjo : o.length + j ≤ 1000000 := by omega
      go_wp2_with fail
      go_quiet ((go_at_call 38; exact Calls.quiet_of_same (hL _)))
      go_wp2_with fail
      · have ht : (((o.length : Int) + j) % fi != 0) = true := by assumption
        have hne : ((o.length : Int) + j) % fi ≠ 0 := by simpa using ht
        have hne' : (o.length + j) % fi ≠ 0 := by
          intro h
          exact hne (by exact_mod_cast h)
        have hps := pad_step fi o.length j hfi hfi' hj2 hne'
        refine (Tryd.Builder_WriteByte (w.heap.size + 1) _ _ _ (wr.drewN nq) hIB (by rw [byteCells_len]; simp; omega) hsz2).mono ?_
        rintro e w3 ⟨rfl, h1, h2⟩
        go_wp2_with fail
        go_roundg ((fi - o.length % fi) % fi - (j + 1))
        case measure => have := HJ.out; omega
        case rel =>
          have hbn : Below (w.heap.size + 1) w1 w3 := hbl.trans (Below.trans (bdrew _ _ _) h2)
          exact ⟨j + 1, rfl, hps, .inr (by rw [List.replicate_succ', ← List.append_assoc]; simpa [byteCells] using h1), hbn, Nat.le_trans hsz2 h2.size⟩
      · have ht : (((o.length : Int) + j) % fi != 0) = false := by assumption
        have he : ((o.length : Int) + j) % fi = 0 := by simpa using ht
        have he' : (o.length + j) % fi = 0 := by exact_mod_cast he
        have hpe := pad_end fi o.length j hfi hfi' hj2 he'
        have HPE : Hid (padL fi o = o ++ List.replicate j 61) := by unfold padL; rw [← hpe]; exact rfl
        clear hpe
        refine (Tryd.Builder_String_any (w.heap.size + 1) _ _ (wr.drewN nq) hIB hsz2).mono ?_
        rintro e w3 ⟨rfl, h2⟩
        go_wp2_with fail
        go_ret
        exact ⟨congrArg (fun l : List UInt8 => Ending.returned (.string ⟨l.toArray⟩)) HPE.out.symm, hbw''.trans (Below.trans (bdrew _ _ _) (h2.mono (by omega)))⟩
end Go.Proofs.YthnohioamefbmaaDoor
