/- The law ListKnown, walked: a map literal of 17 lists, 34 texts that are none, and the calls behind them. -/
import Derived.Test.YtffngbjnbigipaaGreatDoorMapLit
import Derived.Test.YtffngbjnbigipaaGreatDoorLKA
namespace Go.Proofs.YtffngbjnbigipaaGreatDoor
open Go Go.Maps Go.RowKit Go.Lib
set_option linter.unusedSimpArgs false
set_option linter.unusedVariables false
set_option linter.unnecessarySimpa false
set_option maxRecDepth 100000

def g3 (s : List UInt8) (y : Lit) : Prop := s.length ≤ 1000 ∧ y = .int .i64 ((findL s).1.length : Int) ∧ (findL s).2 = 0
theorem wpl_ins {ops : Array Oper} {rest : List Oper} {o : Oper} {a : Act} {Q : Exit → Act → World → Prop} {W : World} {B n : Nat} {g : List UInt8 → Lit → Prop} (hgd : o.guard = none) (m k x : Operand) (hop : o.op = Op.insert 60 m k x) (hdst : o.dst = none)
    (hm : a.eval m = .map (some B)) {s : ByteArray} {c : Int} (hk : a.eval k = .string s) (hx : a.eval x = .int .i64 c) (hM : MapIn Tryz.prog 9 3 g W B n) (hn : n < 1000) {lo : Nat} (hlo : lo ≤ B) (hs : s.size ≤ 1000000)
    (hv : plainElem (H := Unit) Tryz.prog 3 (.int .i64 c) = some (.lit (.int .i64 c), [])) (hg : g s.data.toList (.int .i64 c))
    (h : ∀ W', MapIn Tryz.prog 9 3 g W' B (n + 1) → Below lo W W' → wpList Tryz.prog ops Q rest a W') : wpList Tryz.prog ops Q (o :: rest) a W := by
  obtain ⟨W', hrun, hM', hb⟩ := hM.ins (t := 60) Tryz.underlying9 Tryz.underlying60 hn hlo s hs _ _ hv hg
  refine wpList_plain hgd fun K hK => ?_
  have hp : ∀ v, a.put o.dst v = a := fun v => by rw [hdst]; rfl
  unfold Oper.wp
  simp [execOp, hop, hm, hk, hx, hrun, Result.andThen, hp]
  exact hK _ _ (by rw [hp]; exact h W' hM' hb)
theorem wpl_range {ops : Array Oper} {rest : List Oper} {o : Oper} {a : Act} {Q : Exit → Act → World → Prop} {W : World} {B n : Nat} {g : List UInt8 → Lit → Prop} (hgd : o.guard = none) (m : Operand) (hop : o.op = Op.range 60 m)
    (hm : a.eval m = .map (some B)) (hM : MapIn Tryz.prog 9 3 g W B n) (hn : n ≤ 1000) {lo : Nat} (hlo : lo ≤ W.heap.size)
    (h : ∀ W' r D left cnt, lo ≤ r → GoodD g D → W'.ranges Tryz.prog 9 (plainElem Tryz.prog 3) B r 1000 D left cnt → Below lo W W' → wpList Tryz.prog ops Q rest (a.put o.dst (.pointer (some ⟨r, 0, none⟩))) W') : wpList Tryz.prog ops Q (o :: rest) a W := by
  obtain ⟨D, ho, hG⟩ := hM
  obtain ⟨W', hrun, hrg, hgr, hsz⟩ := (ho.mono (n' := 1000) hn).range (string_keyed Tryz.underlying9) Tryz.underlying60
  refine wpList_plain hgd fun K hK => ?_
  unfold Oper.wp
  simp [execOp, hop, hm, hrun, Result.andThen]
  exact hK _ _ (h W' _ D _ _ hlo hG hrg ((Below.refl _ W).grown hgr hlo (fun k hk => by cases hk)))
theorem World.ranges.below {H : Type} {P : Program} {k : TypeId} {R : Value → Option (DataW H × List MemPlace)} {b r n : Nat} {D : DataW H} {left : Lit → Bool} {cnt : Nat} {w W : World} (h : w.ranges P k R b r n D left cnt) (hb : Below w.heap.size w W) : W.ranges P k R b r n D left cnt := by
  have h1 := h.owns.lt
  have h2 := h.lt
  obtain ⟨es, clock, since, seen, c0, hb0, F, hs, hD, hr, rest⟩ := h
  exact ⟨es, clock, since, seen, c0, (hb.block b h1).trans hb0, F, hs, hD, (hb.block r h2).trans hr, rest⟩
theorem intInv {P : Program} {e : TypeId} {q : IntKind} (he : P.underlying e = some (.int q)) (v : Value) (y : DataW Unit × List MemPlace) (h : plainElem P e v = some y) : ∃ c, v = .int q c := by
  obtain ⟨c, h1, -⟩ := plainElem_int_inv he h
  exact ⟨c, h1⟩
theorem keyString {P : Program} {k : TypeId} (hk : P.underlying k = some .string) (key : Value) (kl : Lit) (h : keyOf P k key = some kl) : ∃ x, key = .string x := by
  obtain ⟨s, h1, -⟩ := WideMaps.string_of_keyOf hk h
  exact ⟨s, h1⟩
theorem keyString2 {P : Program} {k : TypeId} (hk : P.underlying k = some .string) {x : ByteArray} {kl : Lit} (h : keyOf P k (.string x) = some kl) : kl = .string x.data.toList := by
  obtain ⟨s, h1, h2, -⟩ := WideMaps.string_of_keyOf hk h
  cases h1
  exact h2
theorem kfind (s : ByteArray) (n e : Nat) (h : (findL s.data.toList).1.length = n ∧ (findL s.data.toList).2 = e) (hs : s.size ≤ 900000000) (w : World) (hE : Env w) :
    Calls Tryz.prog 11 #[.string s] w fun x w' => ∃ p cap, x = .returned (.tuple #[.slice p n cap, .int .i64 (e : Int)]) ∧ Below w.heap.size w w' :=
  (Find_row s hs w hE).mono fun x w' ⟨v, h1, h2, h3⟩ => by
    obtain ⟨p, cap, rfl, _⟩ := h2
    rw [h.1, h.2] at *
    exact ⟨p, cap, h1, h3⟩
def MRel (w : World) (B r : Nat) (D : DataW Unit) (g : Nat) (W : World) : Prop := Below w.heap.size w W ∧ ∃ left, W.ranges Tryz.prog 9 (plainElem Tryz.prog 3) B r 1000 D left g
def BadAt (W : World) (B : Nat) : Prop := ∀ (i : Nat) (l : List UInt8), badsL[i]? = some l → W.cell? ⟨B, i, none⟩ = some (.string ⟨l.toArray⟩)
theorem BadAt.below {w W : World} {B : Nat} (h : BadAt w B) (hb : Below w.heap.size w W) : BadAt W B := fun i l hi => by
  have c := h i l hi
  exact (hb.cell (p := ⟨B, i, none⟩) (World.block_lt_of_cell? w _ c)).trans c
theorem bad_made (w : World) (cs : Array Value) (h : cs = (badsL.map fun l => Value.string ⟨l.toArray⟩).toArray) : BadAt (w.alloc (.cells cs 9)) w.heap.size := fun i l hl => by
  rw [Lib.cell_of_heap (heap_alloc_new w (.cells cs 9)), h]
  simp [hl]
def BRel (w : World) (B : Nat) (g : Nat) (v51 : Value) (W : World) : Prop := ∃ k : Nat, v51 = .int .i64 (k : Int) ∧ k ≤ 34 ∧ g = 34 - k ∧ Below w.heap.size w W ∧ BadAt W B
set_option maxHeartbeats 16000000 in
theorem lknown_any (w : World) (hE : Env w) : Calls Tryz.prog 7 #[] w fun e w' => e = .returned (.bool true) ∧ Below w.heap.size w w' := by
  have HM := Lib.hid (MapIn.made (P := Tryz.prog) (k := 9) (e := 3) (g := g3) w)
  have HB := Lib.hid (alloc_below w (.map #[] 0))
  have HE := Lib.hid hE
  clear hE
  have hmk := fun w : World => run_makeMap (P := Tryz.prog) 60 w
  go_enter Tryz.func7, Tryz.ntmps7
  go_wp2_with (first
    | (refine wpl_ins rfl _ _ _ rfl rfl rfl rfl rfl HM.out (by decide) (lo := w.heap.size) (Nat.le_refl _) (by decide +kernel) (plainElem_int Tryz.underlying3 (by decide)) ⟨by decide +kernel, congrArg (Lit.int .i64) (by decide +kernel), by decide +kernel⟩ ?_; clear HM; intro W' hM hb; have HM := Lib.hid hM; have HB := Lib.hid (HB.out.trans hb); clear hM hb)
    | (refine wpl_range rfl _ rfl rfl HM.out (by decide) (lo := w.heap.size) HB.out.size ?_; clear HM; intro W' R0 D left cnt hR0 hG hrg hb; have HR0 := Lib.hid hR0; have HG := Lib.hid hG; have HRG := Lib.hid hrg; have HB := Lib.hid (HB.out.trans hb); clear hR0 hG hrg hb; simp only [Act.put, List.setIfInBounds_toArray, List.set_cons_zero, List.set_cons_succ]))
  go_loopg [1, 2, 3, 4] cnt (fun g v1 v2 v3 v4 W => MRel w w.heap.size R0 D g W)
  case atStart => exact ⟨HB.out, left, HRG.out⟩
  case round =>
    obtain ⟨hb, left, hrg⟩ := hrel
    rcases hrg.next (string_keyed Tryz.underlying9) 0 with ⟨hc0, hl0, hnx⟩ | ⟨key, v, kl, y, w1, cnt1, hkey, hlk, hv, hat, hnx, hrg1, hlt, hg1, hs1, hen⟩
    · have HB1 := Lib.hid hb
      clear hrg HRG HB hb hl0
      go_wp2_with fail
      go_loopg [6, 7, 8, 51] 34 (fun g v6 v7 v8 v51 W => BRel wr wr.heap.size g v51 W)
      case atStart => exact ⟨0, rfl, Nat.zero_le _, rfl, alloc_below _ _, bad_made _ _ rfl⟩
      case round =>
        obtain ⟨k, rfl, hk, hg, hb, hbad⟩ := hrel
        have HG2 := Lib.hid hg
        have HB2 := Lib.hid hb
        have HBAD := Lib.hid hbad
        have HBX := Lib.hid (HB1.out.trans (hb.mono HB1.out.size))
        clear hg
        by_cases hlt : k < 34
        · have hk0 : (0 : Int) ≤ (k : Int) := by omega
          have hk1 : (k : Int) < 34 := by omega
          have hwk : IntKind.i64.wrap ((k : Int) + 1) = (k : Int) + 1 := by rw [IntKind.wrap_i64]; omega
          have hkl : k < badsL.length := by rw [bads_len]; exact hlt
          have c0 := hbad k _ (List.getElem?_eq_getElem hkl)
          have hf := bads_find _ (List.getElem_mem hkl)
          have hsz := bads_size _ (List.getElem_mem hkl)
          have HF := Lib.hid (kfind ⟨(badsL[k]).toArray⟩ 0 5 hf (by show (badsL[k]).length ≤ _; omega) _ (HE.out.below HBX.out))
          generalize (⟨(badsL[k]).toArray⟩ : ByteArray) = X at c0 HF
          clear hkl hf hsz hb hbad
          go_wp2_with fail
          refine HF.out.mono ?_
          rintro e w2 ⟨p, cap, rfl, hb2⟩
          go_wp2_with fail
          go_roundg (34 - (k + 1))
          case rel => exact ⟨k + 1, by go_num, by omega, rfl, HB2.out.trans (hb2.mono HB2.out.size), HBAD.out.below hb2⟩
          case measure => have := HG2.out; omega
        · have hge : ¬ (k : Int) < 34 := by omega
          clear hb hbad
          have HR1 := Lib.hid (fun W (hE : Env W) => krep1 W)
          have HR2 := Lib.hid (fun W (hE : Env W) => krep2 W)
          have HF1 := Lib.hid (fun W (hE : Env W) => kfind manyB 64 0 many_find (by decide +kernel) W hE)
          have HF2 := Lib.hid (fun W (hE : Env W) => kfind moreB 0 7 more_find (by decide +kernel) W hE)
          have HF3 := Lib.hid (fun W (hE : Env W) => kfind longbB 0 3 long_find (by decide +kernel) W hE)
          have HP1 := Lib.hid (fun W (hE : Env W) => kput _ _ _ put1 (by decide +kernel) (by decide) (by decide +kernel) _ W (arow0 W) hE)
          have HP2 := Lib.hid (fun W (hE : Env W) => kput _ _ _ put2 (by decide +kernel) (by decide) (by decide +kernel) _ _ (arow1 W ([], [])) (hE.below (alloc_below _ _)))
          have HP3 := Lib.hid (fun W (hE : Env W) => kput _ _ _ put3 (by decide +kernel) (by decide) (by decide +kernel) _ _ (arow1 W ([], [])) (hE.below (alloc_below _ _)))
          have HP4 := Lib.hid (fun W (hE : Env W) => kput _ _ _ put4 (by decide +kernel) (by decide) (by decide +kernel) _ W (arow0 W) hE)
          have HP5 := Lib.hid (fun W (hE : Env W) => kput _ _ _ put5 (by decide +kernel) (by decide) (by decide +kernel) _ _ (arow2 W _ _) (hE.below (alloc_below _ _)))
          have HP6 := Lib.hid (fun W (hE : Env W) => kput _ _ _ put6 (by decide +kernel) (by decide) (by decide +kernel) _ _ (arow2 W _ _) (hE.below (alloc_below _ _)))
          have HT := Lib.hid (fun W (hE : Env W) => tells_any W hE)
          have add1 := kadd1
          have add2 := kadd2
          have HBY := Lib.hid HBX.out
          go_wp2_with fail
          refine (HR1.out _ (HE.out.below HBX.out)).mono ?_
          rintro e xw ⟨rfl, hxb⟩
          have HBX := Lib.hid (HBX.out.trans (hxb.mono HBX.out.size))
          have HBY := Lib.hid HBX.out
          clear hxb
          go_wp2_with fail
          refine (HF1.out _ (HE.out.below HBX.out)).mono ?_
          rintro e xw ⟨p1, c1, rfl, hxb⟩
          have HBX := Lib.hid (HBX.out.trans (hxb.mono HBX.out.size))
          have HBY := Lib.hid HBX.out
          clear hxb
          go_wp2_with fail
          refine (HF2.out _ (HE.out.below HBX.out)).mono ?_
          rintro e xw ⟨p2, c2, rfl, hxb⟩
          have HBX := Lib.hid (HBX.out.trans (hxb.mono HBX.out.size))
          have HBY := Lib.hid HBX.out
          clear hxb
          go_wp2_with fail
          refine (HR2.out _ (HE.out.below HBX.out)).mono ?_
          rintro e xw ⟨rfl, hxb⟩
          have HBX := Lib.hid (HBX.out.trans (hxb.mono HBX.out.size))
          have HBY := Lib.hid HBX.out
          clear hxb
          go_wp2_with fail
          refine (HF3.out _ (HE.out.below HBX.out)).mono ?_
          rintro e xw ⟨p3, c3, rfl, hxb⟩
          have HBX := Lib.hid (HBX.out.trans (hxb.mono HBX.out.size))
          have HBY := Lib.hid HBX.out
          clear hxb
          go_wp2_with fail
          refine (HP1.out _ (HE.out.below HBX.out)).mono ?_
          rintro e xw ⟨rfl, hxb⟩
          have HBX := Lib.hid (HBX.out.trans (hxb.mono HBX.out.size))
          have HBY := Lib.hid HBX.out
          clear hxb
          go_wp2_with fail
          have HBX := Lib.hid (HBX.out.trans ((alloc_below _ (.cells #[.string ⟨#[]⟩, .string ⟨#[]⟩] 30)).mono HBX.out.size))
          refine (HP2.out _ (HE.out.below HBY.out)).mono ?_
          rintro e xw ⟨rfl, hxb⟩
          have HBX := Lib.hid (HBX.out.trans (hxb.mono HBX.out.size))
          have HBY := Lib.hid HBX.out
          clear hxb
          go_wp2_with fail
          have HBX := Lib.hid (HBX.out.trans ((alloc_below _ (.cells #[.string ⟨#[]⟩, .string ⟨#[]⟩] 30)).mono HBX.out.size))
          refine (HP3.out _ (HE.out.below HBY.out)).mono ?_
          rintro e xw ⟨rfl, hxb⟩
          have HBX := Lib.hid (HBX.out.trans (hxb.mono HBX.out.size))
          have HBY := Lib.hid HBX.out
          clear hxb
          go_wp2_with fail
          refine (HP4.out _ (HE.out.below HBX.out)).mono ?_
          rintro e xw ⟨rfl, hxb⟩
          have HBX := Lib.hid (HBX.out.trans (hxb.mono HBX.out.size))
          have HBY := Lib.hid HBX.out
          clear hxb
          go_wp2_with fail
          have HBX := Lib.hid (HBX.out.trans ((alloc_below _ (.cells #[.string ⟨#[65]⟩, .string ⟨#[98]⟩, .string ⟨#[112, 111, 115, 116, 109, 97, 115, 116, 101, 114]⟩, .string ⟨#[67]⟩] 30)).mono HBX.out.size))
          refine (HP5.out _ (HE.out.below HBY.out)).mono ?_
          rintro e xw ⟨rfl, hxb⟩
          have HBX := Lib.hid (HBX.out.trans (hxb.mono HBX.out.size))
          have HBY := Lib.hid HBX.out
          clear hxb
          go_wp2_with fail
          have HBX := Lib.hid (HBX.out.trans ((alloc_below _ (.cells #[.string ⟨#[97]⟩, .string ⟨#[98]⟩, .string ⟨#[102, 32, 103]⟩, .string ⟨#[67]⟩] 30)).mono HBX.out.size))
          refine (HP6.out _ (HE.out.below HBY.out)).mono ?_
          rintro e xw ⟨rfl, hxb⟩
          have HBX := Lib.hid (HBX.out.trans (hxb.mono HBX.out.size))
          have HBY := Lib.hid HBX.out
          clear hxb
          go_wp2_with fail
          refine (HT.out _ (HE.out.below HBX.out)).mono ?_
          rintro e xw ⟨rfl, hxb⟩
          have HBX := Lib.hid (HBX.out.trans (hxb.mono HBX.out.size))
          have HBY := Lib.hid HBX.out
          clear hxb
          go_wp2
          go_ret
          exact ⟨rfl, HBX.out⟩
    · obtain ⟨x, rfl⟩ := keyString Tryz.underlying9 _ _ hkey
      obtain ⟨c, rfl⟩ := intInv (q := .i64) Tryz.underlying3 _ _ hv
      obtain rfl := keyString2 Tryz.underlying9 hkey
      obtain ⟨c', hc', rfl, -⟩ := plainElem_int_inv (q := .i64) Tryz.underlying3 hv
      cases hc'
      obtain ⟨hxl, hxc, hx0⟩ := HG.out _ _ hat
      have hxs : x.size ≤ 1000 := by rw [← list_len]; exact hxl
      have hcc : c = ((findL x.data.toList).1.length : Int) := by cases hxc; rfl
      have hb1 : Below w.heap.size w w1 := hb.grown hg1 hb.size (fun k hk => by cases hk; exact HR0.out)
      have HF := Lib.hid (kfind x _ 0 ⟨rfl, hx0⟩ (by omega) w1 (HE.out.below hb1))
      have hq : (((findL x.data.toList).1.length : Int) != c) = false := by rw [hcc]; simp
      generalize (findL x.data.toList).1.length = m at HF hq
      have HRG1 := Lib.hid hrg1
      have HB4 := Lib.hid hb1
      clear hkey hlk hv hat hrg hrg1 hg1 hs1 hxl hxc hxs hcc hb1 hb hx0
      go_wp2_with fail
      refine HF.out.mono ?_
      rintro e w2 ⟨p, cap, rfl, hb2⟩
      go_wp2_with fail
      go_roundg cnt1
      case rel => exact ⟨HB4.out.trans (hb2.mono HB4.out.size), _, World.ranges.below HRG1.out hb2⟩
      case measure => exact hlt
end Go.Proofs.YtffngbjnbigipaaGreatDoor
