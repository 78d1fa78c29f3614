/- What the closures and the bit walker of the coding package do, for bytes that lie in memory and are below 256. -/
import Derived.Test.YthnohioamefbmaaDoorProg
import Derived.Test.YthnohioamefbmaaDoorPlain
import Derived.WalkKit
import Derived.WalkSpells
import Derived.WalkLawsBesides
import Derived.IntWalk
import Derived.Lib.Hide
import Derived.KernelRfl
import Derived.Deep.LoopGhost
namespace Go.Proofs.YthnohioamefbmaaDoor
open Go.RowKit
set_option linter.unusedSimpArgs false
set_option linter.unusedVariables false

def OuterRel (f t : Nat) (l : List Nat) (I : List Nat → World → Prop) (v9 v10 v15 : Value) (wr : World) : Prop :=
  ∃ (k n m : Nat) (out : List Nat), v15 = .int .i64 k ∧ v9 = .int .i64 m ∧ v10 = .int .i64 n ∧ k ≤ l.length ∧ m < t ∧ n < 2 ^ m ∧ I out wr ∧
    regroup f t l 0 0 = (out ++ (regroup f t (l.drop k) n m).1, (regroup f t (l.drop k) n m).2)
def InnerRel (t : Nat) (I : List Nat → World → Prop) (out : List Nat) (e : List Nat × Nat × Nat) (v9 v10 : Value) (wr : World) : Prop :=
  ∃ (j n m : Nat) (done : List Nat), v9 = .int .i64 m ∧ v10 = .int .i64 n ∧ m < t * (j + 1) ∧ m < 16 ∧ n < 2 ^ m ∧ I (out ++ done) wr ∧ e = (done ++ (emitN t j n m).1, (emitN t j n m).2)

set_option maxHeartbeats 1000000 in
theorem bits_any (g : Nat) (lb : Array Value) (I : List Nat → World → Prop) (f t : Nat) (blk off len cap : Nat) (l : List Nat) (hl : l.length = len) (w : World)
    (hlen : len ≤ 140737488351232)
    (ht : 4 ≤ t) (ht' : t ≤ 8) (hf : 4 ≤ f) (hf' : f ≤ 8) (hlf : ∀ x ∈ l, x < 2 ^ f)
    (eg : ∀ args w, (callFunc g args).run Tryd.prog w = .ok (.enter g args) w)
    (hput : ∀ (out : List Nat) (c : Nat) W, I out W → c < 2 ^ t → out.length + 1 ≤ 3 * len → Calls Tryd.prog g (#[.int .u8 (c : Int)] ++ lb) W fun e w' => e = .returned (.tuple #[]) ∧ I (out ++ [c]) w')
    (hread : ∀ out W, I out W → ∀ i, i < len → W.cell? ⟨blk, off + i, none⟩ = some (.int .u8 (l.getD i 0 : Nat)))
    (h0 : I [] w) :
    Calls Tryd.prog 37 #[.slice (some ⟨blk, off, none⟩) len cap, .int .i64 (f : Int), .int .i64 (t : Int), .func (.func g) #[] lb] w fun e w' =>
      e = .returned (.tuple #[.int .u8 ((regroup f t l 0 0).2.1 % 256 : Nat), .int .i64 ((regroup f t l 0 0).2.2 : Nat)]) ∧ I (regroup f t l 0 0).1 w' := by
  have HL := Lib.hid hl
  clear hl
  have HP := Lib.hid hput
  clear hput
  have HR := Lib.hid hread
  clear hread
  have HF := Lib.hid hlf
  clear hlf
  go_enter Tryd.func37, Tryd.ntmps37
  go_wp2
  go_loopw [9, 10, 15] (fun v9 v10 v15 wr => OuterRel f t l I v9 v10 v15 wr) (fun _ _ i _ => len - (intOf i).toNat)
  case atStart => exact ⟨0, 0, 0, [], rfl, rfl, rfl, by omega, by omega, by simp, h0, by simp⟩
  case round =>
    obtain ⟨k, n, m, out, rfl, rfl, rfl, hk, hm, hn, hI, hreg⟩ := hrel
    have HG := Lib.hid hreg
    clear hreg
    rw [HL.out] at hk
    by_cases hlt : k < len
    · have hcell := HR.out out wr hI k hlt
      have hc : l.getD k 0 < 2 ^ f := by
        rw [List.getD_eq_getElem?_getD, List.getElem?_eq_getElem (by rw [HL.out]; exact hlt)]
        exact HF.out _ (List.getElem_mem _)
      generalize hx : l.getD k 0 = c at *
      have HX := Lib.hid hx
      clear hx
      have h256 : (2:Nat) ^ f ≤ 2 ^ 8 := Nat.pow_le_pow_right (by omega) hf'
      have hc' : c < 256 := by omega
      go_wp2
      rw [or_join n m f c hn (by omega) hf' hc]
      have hj := join_lt n m f c hn hc
      obtain ⟨wo, rfl⟩ : ∃ wo : World, wo = wr := ⟨_, rfl⟩
      have hI1 : I (out ++ []) wo := by simpa using hI
      clear hcell
      go_loopw [9, 10] (fun v9 v10 wr => InnerRel t I out (emitN t 3 (n * 2 ^ f + c) (m + f)) v9 v10 wr) (fun v _ _ => (intOf v).toNat)
      case atStart => exact ⟨3, n * 2 ^ f + c, m + f, [], by simp, by simp, by omega, by omega, hj, hI1, by simp⟩
      case round =>
        obtain ⟨j, n', m', done, rfl, rfl, hmj, hm16, hn', hI', he⟩ := hrel
        have HE := Lib.hid he
        clear he
        by_cases htm : t ≤ m'
        · go_wp2_with fail
          have hb := shr_lt n' m' t hn' htm
          have h256' : (2:Nat) ^ t ≤ 2 ^ 8 := Nat.pow_le_pow_right (by omega) ht'
          rw [shr_byte n' m' t hn' htm ht']
          refine (HP.out _ _ _ hI' hb ?_).mono ?_
          · have hj0 : j ≠ 0 := by rintro rfl; omega
            obtain ⟨j, rfl⟩ : ∃ i, j = i + 1 := ⟨j - 1, by omega⟩
            have h1 := congrArg (fun x => x.1.length) HG.out
            have h2 := congrArg (fun x => x.1.length) HE.out
            have hd : l.drop k = c :: l.drop (k + 1) := by
              rw [List.drop_eq_getElem_cons (by rw [HL.out]; exact hlt)]
              have := HX.out
              rw [List.getD_eq_getElem?_getD, List.getElem?_eq_getElem (by rw [HL.out]; exact hlt)] at this
              rw [show l[k]'(by rw [HL.out]; exact hlt) = c from by simpa using this]
            have h3 := regroup_len f t l 0 0
            have h4 := HL.out
            rw [hd, regroup_cons] at h1
            rw [emit_go t j n' m' htm] at h2
            simp only [List.length_append, List.length_cons] at h1 h2 ⊢
            omega
          rintro e w1 ⟨rfl, hI2⟩
          go_wp2
          go_roundw
          case rel =>
            have hj0 : j ≠ 0 := by rintro rfl; omega
            obtain ⟨j, rfl⟩ : ∃ i, j = i + 1 := ⟨j - 1, by omega⟩
            rw [and_mask n' (m' - t) m' hn' hm16 (by omega)]
            refine ⟨j, n' % 2 ^ (m' - t), m' - t, done ++ [n' / 2 ^ (m' - t)], by go_num, rfl, ?_, by omega, Nat.mod_lt _ (Nat.two_pow_pos _), by rw [← List.append_assoc]; exact hI2, ?_⟩
            · have : t * (j + 1 + 1) = t * (j + 1) + t := by rw [Nat.mul_add t (j + 1) 1]; omega
              omega
            · rw [HE.out, emit_go t j n' m' htm]; simp
          case measure => simp [intOf]; omega
        · have hst := emit_stop t j n' m' (by omega)
          rw [hst] at HE
          go_wp2
          go_roundw
          case rel =>
            refine ⟨k + 1, n', m', out ++ done, by go_num, rfl, rfl, by rw [HL.out]; omega, by omega, hn', hI', ?_⟩
            have hd : l.drop k = c :: l.drop (k + 1) := by
              rw [List.drop_eq_getElem_cons (by rw [HL.out]; exact hlt)]
              have := HX.out
              rw [List.getD_eq_getElem?_getD, List.getElem?_eq_getElem (by rw [HL.out]; exact hlt)] at this
              rw [show l[k]'(by rw [HL.out]; exact hlt) = c from by simpa using this]
            rw [HG.out, hd, regroup_cons, HE.out]; simp
          case measure => simp [intOf]; omega
    · have hkl : k = l.length := by rw [HL.out]; omega
      have hd : l.drop k = [] := by rw [hkl]; simp
      have hfin := HG.out
      rw [hd] at hfin
      simp only [regroup, List.append_nil] at hfin
      have HFI := Lib.hid hfin
      clear hfin hd hkl
      have h256' : (2:Nat) ^ m ≤ 2 ^ 8 := Nat.pow_le_pow_right (by omega) (by omega)
      go_wp2
      go_ret2
      rw [HFI.out]
      exact ⟨by simp; omega, hI⟩
/-- the slice reads as these bytes, in old memory. -/
def Bytes (w : World) (sv : Value) (l : List Nat) : Prop :=
  (∃ p cap, sv = .slice p l.length cap ∧ (l = [] ∨ ∃ blk off, p = some ⟨blk, off, none⟩ ∧ blk < w.heap.size ∧ ∀ i, i < l.length → w.cell? ⟨blk, off + i, none⟩ = some (.int .u8 (l.getD i 0 : Nat))))
theorem Bytes.below {w W : World} {sv : Value} {l : List Nat} (h : Bytes w sv l) (hb : Below w.heap.size w W) : Bytes W sv l := by
  obtain ⟨p, cap, rfl, h⟩ := h
  refine ⟨p, cap, rfl, ?_⟩
  rcases h with h | ⟨blk, off, rfl, hlt, hc⟩
  · exact .inl h
  · exact .inr ⟨blk, off, rfl, Nat.lt_of_lt_of_le hlt hb.size, fun i hi => by rw [hb.cell (p := ⟨blk, off + i, none⟩) hlt]; exact hc i hi⟩

set_option maxRecDepth 100000 in
set_option maxHeartbeats 400000 in
theorem bits_nil (fv : Value) (f t : Nat) (p : Option Addr) (cap : Nat) (w : World) :
    Calls Tryd.prog 37 #[.slice p 0 cap, .int .i64 (f : Int), .int .i64 (t : Int), fv] w fun e w' =>
      e = .returned (.tuple #[.int .u8 0, .int .i64 0]) ∧ w = w' := by
  go_enter Tryd.func37, Tryd.ntmps37
  go_wp2
  go_loop [9, 10, 15] (fun v9 v10 v => v9 = .int .i64 0 ∧ v10 = .int .i64 0 ∧ v = .int .i64 0) (fun _ _ _ => 0)
  case atStart => exact ⟨rfl, rfl, rfl⟩
  case round =>
    obtain ⟨rfl, rfl, rfl⟩ := hrel
    go_wp2
    go_ret2
    exact ⟨rfl, rfl⟩

/-- 'bits', its function value described by an invariant of the world. -/
theorem bits_all (g : Nat) (lb : Array Value) (I : List Nat → World → Prop) (f t : Nat) (sv : Value) (l : List Nat) (w0 w : World) (hsv : Bytes w0 sv l) (hlen : l.length ≤ 140737488351232)
    (ht : 4 ≤ t) (ht' : t ≤ 8) (hf : 4 ≤ f) (hf' : f ≤ 8) (hlf : ∀ x ∈ l, x < 2 ^ f)
    (eg : ∀ args w, (callFunc g args).run Tryd.prog w = .ok (.enter g args) w)
    (hput : ∀ (out : List Nat) (c : Nat) W, I out W → c < 2 ^ t → out.length + 1 ≤ 3 * l.length → Calls Tryd.prog g (#[.int .u8 (c : Int)] ++ lb) W fun e w' => e = .returned (.tuple #[]) ∧ I (out ++ [c]) w')
    (hread : ∀ out W, I out W → Bytes W sv l) (h0 : I [] w) :
    Calls Tryd.prog 37 #[sv, .int .i64 (f : Int), .int .i64 (t : Int), .func (.func g) #[] lb] w fun e w' =>
      e = .returned (.tuple #[.int .u8 ((regroup f t l 0 0).2.1 % 256 : Nat), .int .i64 ((regroup f t l 0 0).2.2 : Nat)]) ∧ I (regroup f t l 0 0).1 w' := by
  obtain ⟨p, cap, rfl, h⟩ := hsv
  rcases h with rfl | ⟨blk, off, rfl, hlt, hc⟩
  · refine (bits_nil _ f t p cap w).mono ?_
    rintro e w' ⟨rfl, rfl⟩
    exact ⟨rfl, h0⟩
  · exact bits_any g lb I f t blk off _ cap l rfl w hlen ht ht' hf hf' hlf eg hput
      (fun out W hI i hi => by
        obtain ⟨p', cap', he, h⟩ := hread out W hI
        cases he
        rcases h with rfl | ⟨blk', off', he, _, hc'⟩
        · simp at hi
        · cases he
          exact hc' i hi) h0

end Go.Proofs.YthnohioamefbmaaDoor
