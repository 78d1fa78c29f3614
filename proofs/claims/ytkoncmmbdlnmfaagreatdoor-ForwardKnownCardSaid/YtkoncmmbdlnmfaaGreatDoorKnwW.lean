/- ForwardKnown: its walk. -/
import Derived.Test.YtkoncmmbdlnmfaaGreatDoorLinN
import Derived.Test.YtkoncmmbdlnmfaaGreatDoorOwnW
import Derived.Test.YtkoncmmbdlnmfaaGreatDoorMapLit
namespace Go.Proofs.YtkoncmmbdlnmfaaGreatDoor
open Go Go.Maps Go.RowKit Go.Lib
set_option linter.unusedSimpArgs false
set_option linter.unusedVariables false
set_option linter.unnecessarySimpa false
set_option maxRecDepth 100000

/-- what the law's table says of a text: how many targets it tells; below nought: none. -/
def knO (s : List UInt8) (c : Int) : Bool := if c < 0 then (fwdL x3 s).isEmpty else (!(fwdL x3 s).isEmpty && decide (((fwdL x3 s).length : Int) = c))
def gK (s : List UInt8) (y : Lit) : Prop := s.length ≤ 1000 ∧ ∃ c : Int, y = .int .i64 c ∧ knO s c = true
theorem wpl_ins {ops : Array Oper} {rest : List Oper} {o : Oper} {a : Act} {Q : Exit → Act → World → Prop} {W : World} {B n : Nat} {g : List UInt8 → Lit → Prop} (hgd : o.guard = none) (m k x : Operand) (hop : o.op = Op.insert 44 m k x) (hdst : o.dst = none)
    (hm : a.eval m = .map (some B)) {s : ByteArray} {c : Int} (hk : a.eval k = .string s) (hx : a.eval x = .int .i64 c) (hM : MapIn Tryz.prog 9 3 g W B n) (hn : n < 1000) {lo : Nat} (hlo : lo ≤ B) (hs : s.size ≤ 1000000)
    (hv : plainElem (H := Unit) Tryz.prog 3 (.int .i64 c) = some (.lit (.int .i64 c), [])) (hg : g s.data.toList (.int .i64 c))
    (h : ∀ W', MapIn Tryz.prog 9 3 g W' B (n + 1) → Below lo W W' → wpList Tryz.prog ops Q rest a W') : wpList Tryz.prog ops Q (o :: rest) a W := by
  obtain ⟨W', hrun, hM', hb⟩ := hM.ins (t := 44) Tryz.underlying9 Tryz.underlying44 hn hlo s hs _ _ hv hg
  refine wpList_plain hgd fun K hK => ?_
  have hp : ∀ v, a.put o.dst v = a := fun v => by rw [hdst]; rfl
  unfold Oper.wp
  simp [execOp, hop, hm, hk, hx, hrun, Result.andThen, hp]
  exact hK _ _ (by rw [hp]; exact h W' hM' hb)
theorem wpl_range {ops : Array Oper} {rest : List Oper} {o : Oper} {a : Act} {Q : Exit → Act → World → Prop} {W : World} {B n : Nat} {g : List UInt8 → Lit → Prop} (hgd : o.guard = none) (m : Operand) (hop : o.op = Op.range 44 m)
    (hm : a.eval m = .map (some B)) (hM : MapIn Tryz.prog 9 3 g W B n) (hn : n ≤ 1000) {lo : Nat} (hlo : lo ≤ W.heap.size)
    (h : ∀ W' r D left cnt, lo ≤ r → GoodD g D → W'.ranges Tryz.prog 9 (plainElem Tryz.prog 3) B r 1000 D left cnt → Below lo W W' → wpList Tryz.prog ops Q rest (a.put o.dst (.pointer (some ⟨r, 0, none⟩))) W') : wpList Tryz.prog ops Q (o :: rest) a W := by
  obtain ⟨D, ho, hG⟩ := hM
  obtain ⟨W', hrun, hrg, hgr, hsz⟩ := (ho.mono (n' := 1000) hn).range (string_keyed Tryz.underlying9) Tryz.underlying44
  refine wpList_plain hgd fun K hK => ?_
  unfold Oper.wp
  simp [execOp, hop, hm, hrun, Result.andThen]
  exact hK _ _ (h W' _ D _ _ hlo hG hrg ((Below.refl _ W).grown hgr hlo (fun k hk => by cases hk)))
theorem World.ranges.below {H : Type} {P : Program} {k : TypeId} {R : Value → Option (DataW H × List MemPlace)} {b r n : Nat} {D : DataW H} {left : Lit → Bool} {cnt : Nat} {w W : World} (h : w.ranges P k R b r n D left cnt) (hb : Below w.heap.size w W) : W.ranges P k R b r n D left cnt := by
  have h1 := h.owns.lt
  have h2 := h.lt
  obtain ⟨es, clock, since, seen, c0, hb0, F, hs, hD, hr, rest⟩ := h
  exact ⟨es, clock, since, seen, c0, (hb.block b h1).trans hb0, F, hs, hD, (hb.block r h2).trans hr, rest⟩
theorem intInv {P : Program} {e : TypeId} {q : IntKind} (he : P.underlying e = some (.int q)) (v : Value) (y : DataW Unit × List MemPlace) (h : plainElem P e v = some y) : ∃ c, v = .int q c := by
  obtain ⟨c, h1, -⟩ := plainElem_int_inv he h
  exact ⟨c, h1⟩
theorem keyString {P : Program} {k : TypeId} (hk : P.underlying k = some .string) (key : Value) (kl : Lit) (h : keyOf P k key = some kl) : ∃ x, key = .string x := by
  obtain ⟨s, h1, -⟩ := WideMaps.string_of_keyOf hk h
  exact ⟨s, h1⟩
theorem keyString2 {P : Program} {k : TypeId} (hk : P.underlying k = some .string) {x : ByteArray} {kl : Lit} (h : keyOf P k (.string x) = some kl) : kl = .string x.data.toList := by
  obtain ⟨s, h1, h2, -⟩ := WideMaps.string_of_keyOf hk h
  cases h1
  exact h2
def MRel (w : World) (B r : Nat) (D : DataW Unit) (g : Nat) (W : World) : Prop := Below w.heap.size w W ∧ ∃ left, W.ranges Tryz.prog 9 (plainElem Tryz.prog 3) B r 1000 D left g
/-- a row that has just been laid. -/
theorem GRow.made {α : Type} {k : Nat} {C : α → List Value} (hC : ∀ x, (C x).length = k) (w : World) (l : List α) (t cap : Nat) (cs : Array Value) (hcs : cs = (l.flatMap C).toArray) : GRow k C (w.alloc (.cells cs t)) (.slice (some ⟨w.heap.size, 0, none⟩) l.length cap) l := by
  subst hcs
  have h := heap_alloc_new w (.cells (l.flatMap C).toArray t)
  refine ⟨_, cap, rfl, .inr ⟨w.heap.size, 0, rfl, (Array.getElem?_eq_some_iff.1 h).1, fun i x hx j u hu => ?_⟩⟩
  have hjk : j < k := by rw [← hC x]; exact (List.getElem?_eq_some_iff.1 hu).1
  have e := flat_get hC l i j x hx hjk
  rw [Lib.cell_of_heap h, Nat.zero_add]
  simp only [List.getElem?_toArray]
  rw [e]
  exact hu
def k1 : List TI := [(2, ([], []), [98, 111, 98]), (3, ([], []), [97, 110, 110]), (4, ([], []), [120])]
def k2 : List TI := [(2, ([], []), [35, 98, 111, 98])]
def k3 : List TI := [(7, ([], []), [])]
theorem ft1 : fTx k1 = ([98, 111, 98, 44, 32, 92, 97, 110, 110, 44, 32, 47, 120, 10], true) := by decide +kernel
theorem ft2 : fTx k2 = ([], false) := by decide +kernel
theorem ft3 : fTx k3 = ([], false) := by decide +kernel
theorem ft4 : fTx [] = ([], false) := by decide +kernel
set_option maxHeartbeats 16000000 in
theorem known_any (w : World) (hEB : Env w ∧ Begs w) : Calls Tryz.prog 5 #[] w fun e w' => e = .returned (.bool true) ∧ Below w.heap.size w w' := by
  obtain ⟨hE, hBg⟩ := hEB
  have HM := Lib.hid (MapIn.made (P := Tryz.prog) (k := 9) (e := 3) (g := gK) w)
  have HB := Lib.hid (alloc_below w (.map #[] 0))
  have HE := Lib.hid hE
  have HBg := Lib.hid hBg
  clear hE hBg
  have hmk := fun w : World => run_makeMap (P := Tryz.prog) 44 w
  go_enter Tryz.func5, Tryz.ntmps5
  go_wp2_with (first
    | (refine wpl_ins rfl _ _ _ rfl rfl rfl rfl rfl HM.out (by decide) (lo := w.heap.size) (Nat.le_refl _) (by decide +kernel) (plainElem_int Tryz.underlying3 (by decide)) ⟨by decide +kernel, _, rfl, by decide +kernel⟩ ?_; clear HM; intro W' hM hb; have HM := Lib.hid hM; have HB := Lib.hid (HB.out.trans hb); clear hM hb)
    | (refine wpl_range rfl _ rfl rfl HM.out (by decide) (lo := w.heap.size) HB.out.size ?_; clear HM; intro W' R0 D left cnt hR0 hG hrg hb; have HR0 := Lib.hid hR0; have HG := Lib.hid hG; have HRG := Lib.hid hrg; have HB := Lib.hid (HB.out.trans hb); clear hR0 hG hrg hb; simp only [Act.put, List.setIfInBounds_toArray, List.set_cons_zero, List.set_cons_succ]))
  go_loopg [1, 2, 3, 4] cnt (fun g v1 v2 v3 v4 W => MRel w w.heap.size R0 D g W)
  case atStart => exact ⟨HB.out, left, HRG.out⟩
  case round =>
    obtain ⟨hb, left, hrg⟩ := hrel
    rcases hrg.next (string_keyed Tryz.underlying9) 0 with ⟨hc0, hl0, hnx⟩ | ⟨key, v, kl, y, w1, cnt1, hkey, hlk, hv, hat, hnx, hrg1, hlt, hg1, hs1, hen⟩
    · have HB1 := Lib.hid hb
      clear hrg HRG HB hb hl0
      have HT1 := Lib.hid (fun W (hE : Env W) (hB : Begs W) => show Calls Tryz.prog 17 #[.slice (some ⟨W.heap.size, 0, none⟩) 3 3] (W.alloc (.cells #[.int .i64 2, .string ⟨#[]⟩, .string ⟨#[]⟩, .string ⟨#[98, 111, 98]⟩, .int .i64 3, .string ⟨#[]⟩, .string ⟨#[]⟩, .string ⟨#[97, 110, 110]⟩, .int .i64 4, .string ⟨#[]⟩, .string ⟨#[]⟩, .string ⟨#[120]⟩] 28)) fun e w' => e = .returned (.tuple #[.string ⟨#[98, 111, 98, 44, 32, 92, 97, 110, 110, 44, 32, 47, 120, 10]⟩, .bool true]) ∧ Below (W.alloc (.cells #[.int .i64 2, .string ⟨#[]⟩, .string ⟨#[]⟩, .string ⟨#[98, 111, 98]⟩, .int .i64 3, .string ⟨#[]⟩, .string ⟨#[]⟩, .string ⟨#[97, 110, 110]⟩, .int .i64 4, .string ⟨#[]⟩, .string ⟨#[]⟩, .string ⟨#[120]⟩] 28)).heap.size (W.alloc (.cells #[.int .i64 2, .string ⟨#[]⟩, .string ⟨#[]⟩, .string ⟨#[98, 111, 98]⟩, .int .i64 3, .string ⟨#[]⟩, .string ⟨#[]⟩, .string ⟨#[97, 110, 110]⟩, .int .i64 4, .string ⟨#[]⟩, .string ⟨#[]⟩, .string ⟨#[120]⟩] 28)) w' from by
        have h := Text_fwd k1 (.slice (some ⟨W.heap.size, 0, none⟩) 3 3) (W.alloc (.cells #[.int .i64 2, .string ⟨#[]⟩, .string ⟨#[]⟩, .string ⟨#[98, 111, 98]⟩, .int .i64 3, .string ⟨#[]⟩, .string ⟨#[]⟩, .string ⟨#[97, 110, 110]⟩, .int .i64 4, .string ⟨#[]⟩, .string ⟨#[]⟩, .string ⟨#[120]⟩] 28)) (GRow.made (C := tiC) tiC_len W k1 28 3 _ rfl) (by decide) (by decide +kernel) (hE.below (alloc_below _ _)) (hB.below (alloc_below _ _))
        rw [ft1] at h
        exact h)
      have HT2 := Lib.hid (fun W (hE : Env W) (hB : Begs W) => show Calls Tryz.prog 17 #[.slice (some ⟨W.heap.size, 0, none⟩) 1 1] (W.alloc (.cells #[.int .i64 2, .string ⟨#[]⟩, .string ⟨#[]⟩, .string ⟨#[35, 98, 111, 98]⟩] 28)) fun e w' => e = .returned (.tuple #[.string ⟨#[]⟩, .bool false]) ∧ Below (W.alloc (.cells #[.int .i64 2, .string ⟨#[]⟩, .string ⟨#[]⟩, .string ⟨#[35, 98, 111, 98]⟩] 28)).heap.size (W.alloc (.cells #[.int .i64 2, .string ⟨#[]⟩, .string ⟨#[]⟩, .string ⟨#[35, 98, 111, 98]⟩] 28)) w' from by
        have h := Text_fwd k2 (.slice (some ⟨W.heap.size, 0, none⟩) 1 1) (W.alloc (.cells #[.int .i64 2, .string ⟨#[]⟩, .string ⟨#[]⟩, .string ⟨#[35, 98, 111, 98]⟩] 28)) (GRow.made (C := tiC) tiC_len W k2 28 1 _ rfl) (by decide) (by decide +kernel) (hE.below (alloc_below _ _)) (hB.below (alloc_below _ _))
        rw [ft2] at h
        exact h)
      have HT3 := Lib.hid (fun W (hE : Env W) (hB : Begs W) => show Calls Tryz.prog 17 #[.slice (some ⟨W.heap.size, 0, none⟩) 1 1] (W.alloc (.cells #[.int .i64 7, .string ⟨#[]⟩, .string ⟨#[]⟩, .string ⟨#[]⟩] 28)) fun e w' => e = .returned (.tuple #[.string ⟨#[]⟩, .bool false]) ∧ Below (W.alloc (.cells #[.int .i64 7, .string ⟨#[]⟩, .string ⟨#[]⟩, .string ⟨#[]⟩] 28)).heap.size (W.alloc (.cells #[.int .i64 7, .string ⟨#[]⟩, .string ⟨#[]⟩, .string ⟨#[]⟩] 28)) w' from by
        have h := Text_fwd k3 (.slice (some ⟨W.heap.size, 0, none⟩) 1 1) (W.alloc (.cells #[.int .i64 7, .string ⟨#[]⟩, .string ⟨#[]⟩, .string ⟨#[]⟩] 28)) (GRow.made (C := tiC) tiC_len W k3 28 1 _ rfl) (by decide) (by decide +kernel) (hE.below (alloc_below _ _)) (hB.below (alloc_below _ _))
        rw [ft3] at h
        exact h)
      have HT4 := Lib.hid (fun W (hE : Env W) (hB : Begs W) => show Calls Tryz.prog 17 #[.slice none 0 0] W fun e w' => e = .returned (.tuple #[.string ⟨#[]⟩, .bool false]) ∧ Below W.heap.size W w' from by
        have h := Text_fwd [] (.slice none 0 0) W ⟨none, 0, rfl, .inl rfl⟩ (by decide) (fun t ht => by cases ht) hE hB
        rw [ft4] at h
        exact h)
      have HBX := Lib.hid HB1.out
      go_wp2_with fail
      refine (HT1.out _ (HE.out.below HBX.out) (HBg.out.below HBX.out)).mono ?_
      rintro e xw ⟨rfl, hxb⟩
      have HBX := Lib.hid ((HBX.out.trans ((alloc_below _ (.cells #[.int .i64 2, .string ⟨#[]⟩, .string ⟨#[]⟩, .string ⟨#[98, 111, 98]⟩, .int .i64 3, .string ⟨#[]⟩, .string ⟨#[]⟩, .string ⟨#[97, 110, 110]⟩, .int .i64 4, .string ⟨#[]⟩, .string ⟨#[]⟩, .string ⟨#[120]⟩] 28)).mono HBX.out.size)).trans (hxb.mono (HBX.out.trans ((alloc_below _ (.cells #[.int .i64 2, .string ⟨#[]⟩, .string ⟨#[]⟩, .string ⟨#[98, 111, 98]⟩, .int .i64 3, .string ⟨#[]⟩, .string ⟨#[]⟩, .string ⟨#[97, 110, 110]⟩, .int .i64 4, .string ⟨#[]⟩, .string ⟨#[]⟩, .string ⟨#[120]⟩] 28)).mono HBX.out.size)).size))
      clear hxb
      go_wp2_with fail
      refine (HT2.out _ (HE.out.below HBX.out) (HBg.out.below HBX.out)).mono ?_
      rintro e xw ⟨rfl, hxb⟩
      have HBX := Lib.hid ((HBX.out.trans ((alloc_below _ (.cells #[.int .i64 2, .string ⟨#[]⟩, .string ⟨#[]⟩, .string ⟨#[35, 98, 111, 98]⟩] 28)).mono HBX.out.size)).trans (hxb.mono (HBX.out.trans ((alloc_below _ (.cells #[.int .i64 2, .string ⟨#[]⟩, .string ⟨#[]⟩, .string ⟨#[35, 98, 111, 98]⟩] 28)).mono HBX.out.size)).size))
      clear hxb
      go_wp2_with fail
      refine (HT3.out _ (HE.out.below HBX.out) (HBg.out.below HBX.out)).mono ?_
      rintro e xw ⟨rfl, hxb⟩
      have HBX := Lib.hid ((HBX.out.trans ((alloc_below _ (.cells #[.int .i64 7, .string ⟨#[]⟩, .string ⟨#[]⟩, .string ⟨#[]⟩] 28)).mono HBX.out.size)).trans (hxb.mono (HBX.out.trans ((alloc_below _ (.cells #[.int .i64 7, .string ⟨#[]⟩, .string ⟨#[]⟩, .string ⟨#[]⟩] 28)).mono HBX.out.size)).size))
      clear hxb
      go_wp2_with fail
      refine (HT4.out _ (HE.out.below HBX.out) (HBg.out.below HBX.out)).mono ?_
      rintro e xw ⟨rfl, hxb⟩
      have HBX := Lib.hid (HBX.out.trans (hxb.mono HBX.out.size))
      clear hxb
      have HTA := Lib.hid (tells_any xw (HE.out.below HBX.out) (HBg.out.below HBX.out))
      go_wp2_with fail
      refine HTA.out.mono ?_
      rintro e yw ⟨rfl, hyb⟩
      have HBY := Lib.hid (HBX.out.trans (hyb.mono HBX.out.size))
      clear hyb
      go_wp2
      go_ret
      exact ⟨rfl, HBY.out⟩
    · obtain ⟨x, rfl⟩ := keyString Tryz.underlying9 _ _ hkey
      obtain ⟨c, rfl⟩ := intInv (q := .i64) Tryz.underlying3 _ _ hv
      obtain rfl := keyString2 Tryz.underlying9 hkey
      obtain ⟨c', hc', rfl, -⟩ := plainElem_int_inv (q := .i64) Tryz.underlying3 hv
      cases hc'
      obtain ⟨hxl, c', hxc, hx0⟩ := HG.out _ _ hat
      obtain rfl : c = c' := by cases hxc; rfl
      have hxs : x.size ≤ 1000 := by rw [← list_len]; exact hxl
      have hb1 : Below w.heap.size w w1 := hb.grown hg1 hb.size (fun k hk => by cases hk; exact HR0.out)
      have HF := Lib.hid (Parse_fwd ⟨x3.toArray⟩ x (by decide) (by omega) w1 (HE.out.below hb1) (HBg.out.below hb1))
      rw [show (⟨x3.toArray⟩ : ByteArray).data.toList = x3 from rfl] at HF
      unfold knO at hx0
      generalize fwdL x3 x.data.toList = l at HF hx0
      unfold x3 at HF
      have HRG1 := Lib.hid hrg1
      have HB4 := Lib.hid hb1
      clear hkey hlk hv hat hrg hrg1 hg1 hs1 hxl hxc hxs hb1 hb
      by_cases hc : c < 0
      · rw [if_pos hc] at hx0
        obtain rfl := List.isEmpty_iff.1 hx0
        clear hx0
        go_wp2_with fail
        refine HF.out.mono ?_
        rintro e w2 ⟨v2, rfl, ⟨p, cap, rfl, -⟩, -, hb2⟩
        go_wp2_with fail
        go_roundg cnt1
        case rel => exact ⟨HB4.out.trans (hb2.mono HB4.out.size), _, World.ranges.below HRG1.out hb2⟩
        case measure => exact hlt
      · rw [if_neg hc] at hx0
        simp only [Bool.and_eq_true, Bool.not_eq_true', decide_eq_true_eq] at hx0
        obtain ⟨h1, h2⟩ := hx0
        have hq : ((l.length : Int) != c) = false := by rw [h2]; simp
        have hc0 : 0 ≤ c := by omega
        rw [h1] at HF
        clear h1 h2
        go_wp2_with fail
        refine HF.out.mono ?_
        rintro e w2 ⟨v2, rfl, ⟨p, cap, rfl, -⟩, -, hb2⟩
        rw [List.length_map]
        go_wp2_with fail
        go_roundg cnt1
        case rel => exact ⟨HB4.out.trans (hb2.mono HB4.out.size), _, World.ranges.below HRG1.out hb2⟩
        case measure => exact hlt
end Go.Proofs.YtkoncmmbdlnmfaaGreatDoor
