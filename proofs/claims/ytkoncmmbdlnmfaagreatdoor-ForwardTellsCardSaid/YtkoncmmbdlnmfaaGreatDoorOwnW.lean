/- ForwardOwn: its walk. -/
import Derived.Test.YtkoncmmbdlnmfaaGreatDoorLinM
import Derived.Test.YtkoncmmbdlnmfaaGreatDoorEK4
import Derived.Test.YtkoncmmbdlnmfaaGreatDoorTexT
namespace Go.Proofs.YtkoncmmbdlnmfaaGreatDoor
open Go.RowKit Go.Lib
set_option linter.unusedSimpArgs false
set_option linter.unusedVariables false
set_option linter.unnecessarySimpa false
set_option maxRecDepth 100000

def x1 : List UInt8 := [65, 110, 110]
def x2 : List UInt8 := [97, 110, 110, 44, 32, 98, 111, 98, 64, 102, 97, 114, 46, 110, 101, 116, 10, 47, 98, 111, 120, 10]
def x3 : List UInt8 := [97, 110, 110]
def x4 : List UInt8 := [98, 111, 98, 10, 97, 46, 46, 98, 10]
theorem fw1 : fwdL x1 x2 = [(3, ([], []), [97, 110, 110]), (1, ([98, 111, 98], [102, 97, 114, 46, 110, 101, 116]), []), (4, ([], []), [98, 111, 120])] := by decide +kernel
theorem fw2 : fwdL x3 x4 = [] := by decide +kernel
set_option maxHeartbeats 4000000 in
/-- the law's own examples. -/
theorem tells_any (w : World) (hE : Env w) (hB : Begs w) : Calls Tryz.prog 14 #[] w fun e w' => e = .returned (.bool true) ∧ Below w.heap.size w w' := by
  have H1 := Lib.hid (Parse_fwd ⟨x1.toArray⟩ ⟨x2.toArray⟩ (by decide) (by decide) w hE hB)
  have H2 := Lib.hid (fun W hE hB => Parse_fwd ⟨x3.toArray⟩ ⟨x4.toArray⟩ (by decide) (by decide) W hE hB)
  simp only [List.toList_toArray, fw1, fw2] at H1 H2
  unfold x1 x2 at H1
  unfold x3 x4 at H2
  have HE := Lib.hid hE
  have HB := Lib.hid hB
  clear hE hB
  go_enter Tryz.func14, Tryz.ntmps14
  go_wp2_with fail
  refine H1.out.mono ?_
  rintro e w1 ⟨v1, rfl, hr1, hc1, hb1⟩
  have R1 := Lib.hid hr1
  have C1 := Lib.hid hc1
  have B1 := Lib.hid hb1
  clear hr1 hc1 hb1
  go_wp2_with fail
  refine (H2.out _ (HE.out.below B1.out) (HB.out.below B1.out)).mono ?_
  rintro e w2 ⟨v2, rfl, hr2, hc2, hb2⟩
  have B2 := Lib.hid (B1.out.trans (hb2.mono B1.out.size))
  obtain ⟨p1, cap1, rfl, h | ⟨b1, o1, rfl, _, g1⟩⟩ := R1.out.below hb2
  · cases h
  have a0 := g1 0 _ rfl 0 (.int .i64 3) rfl
  have a1 := g1 0 _ rfl 1 (.string ⟨#[]⟩) rfl
  have a2 := g1 0 _ rfl 2 (.string ⟨#[]⟩) rfl
  have a3 := g1 0 _ rfl 3 (.string ⟨#[97, 110, 110]⟩) rfl
  have a4 := g1 1 _ rfl 0 (.int .i64 1) rfl
  have a8 := g1 2 _ rfl 0 (.int .i64 4) rfl
  simp only [Nat.zero_mul, Nat.add_zero, Nat.one_mul, Nat.reduceMul] at a0 a1 a2 a3 a4 a8
  clear g1 hr2 hc2 hb2
  go_wp2
  go_ret
  exact ⟨rfl, B2.out⟩
def OCut (w : World) (v0 v1 : Value) (W : World) : Prop := (∃ S : ByteArray, v0 = .string S ∧ S.size ≤ 40) ∧ (∃ T : ByteArray, v1 = .string T ∧ T.size ≤ 600) ∧ Below w.heap.size w W
def OwnRel (l : List Tg) (w : World) (g : Nat) (v37 : Value) (W : World) : Prop := ∃ k : Nat, v37 = .int .i64 (k : Int) ∧ k ≤ l.length ∧ g = l.length - k ∧ Below w.heap.size w W
theorem nodup_take {l : List Tg} (h : l.Nodup) {k : Nat} {t : Tg} (hk : l[k]? = some t) : ((l.map up).take k).contains (up t) = false := by
  rw [List.contains_eq_mem, decide_eq_false_iff_not, ← List.map_take]
  intro hm
  obtain ⟨t', ht', he⟩ := List.mem_map.1 hm
  have := up_inj he
  subst this
  obtain ⟨j, hj⟩ := List.getElem?_of_mem ht'
  rw [List.getElem?_take] at hj
  split at hj
  · rename_i hjk
    obtain ⟨h1, h2⟩ := List.getElem?_eq_some_iff.1 hj
    obtain ⟨h3, h4⟩ := List.getElem?_eq_some_iff.1 hk
    have := (List.getElem_inj h).1 (h2.trans h4.symm)
    omega
  · cases hj
theorem addAll_short (user : List UInt8) : ∀ (l out : List Tg), (∀ t ∈ out, ShortT t) → (∀ t ∈ l, ShortT t) → ∀ t ∈ addAll user out l, ShortT t
  | [], out, h, _ => h
  | x :: l, out, h, hl => by
    rw [addAll]
    refine addAll_short user l _ ?_ (fun t ht => hl t (List.mem_cons_of_mem _ ht))
    unfold addT
    split
    · exact h
    · intro t ht
      rcases List.mem_append.1 ht with ht | ht
      · exact h t ht
      · obtain rfl := List.mem_singleton.1 ht
        exact own_short user (hl x List.mem_cons_self)
theorem fwdGo_short (user : List UInt8) : ∀ (ks : List (List UInt8)) (many : Nat) (out res : List Tg), (∀ k ∈ ks, k.contains 34 = false ∧ k.length ≤ 100000) → (∀ t ∈ out, ShortT t) → fwdGo user ks many out = some res → ∀ t ∈ res, ShortT t
  | [], many, out, res, _, h, e => by
    injection e with e
    subst e
    exact h
  | key :: ks, many, out, res, hk, h, e => by
    rw [fwdGo] at e
    split at e
    · cases e
    · rename_i l hl
      split at e
      · cases e
      · have hs := (said_short hl (hk key List.mem_cons_self).1 (hk key List.mem_cons_self).2).2
        exact fwdGo_short user ks _ _ res (fun k hk' => hk k (List.mem_cons_of_mem _ hk')) (addAll_short user l out h hs) e
theorem fwd_short (user s : List UInt8) (hs : s.length ≤ 8192) : ∀ t ∈ fwdL user s, ShortT t := by
  have hf := lines_facts hs
  unfold fwdL
  split
  · intro t ht; cases ht
  · split
    · intro t ht; cases ht
    · rename_i out hout
      refine fwdGo_short user _ 0 [] out (fun k hk => ?_) (fun t ht => by cases ht) hout
      obtain ⟨y, hy, rfl⟩ := List.mem_map.1 hk
      obtain ⟨-, h1, h2⟩ := hf.1 y hy
      exact ⟨h1, by omega⟩
set_option maxHeartbeats 16000000 in
theorem own_any (s0 t0 : ByteArray) (hs0 : s0.size ≤ 140737488351232) (ht0 : t0.size ≤ 140737488351232) (w : World) (hEB : Env w ∧ Begs w) : Calls Tryz.prog 3 #[.string s0, .string t0] w fun e w' => e = .returned (.bool true) ∧ Below w.heap.size w w' := by
  obtain ⟨hE, hB⟩ := hEB
  go_enter Tryz.func3, Tryz.ntmps3
  go_upto_region 1 with (fail)
  go_cut [0, 1] (fun v0 v1 wc => OCut w v0 v1 wc)
  case first =>
    have h0 : (0 : Int) ≤ min (s0.size : Int) 40 := by omega
    have h1 : min (s0.size : Int) 40 ≤ (s0.size : Int) := by omega
    have h2 : (0 : Int) ≤ min (t0.size : Int) 600 := by omega
    have h3 : min (t0.size : Int) 600 ≤ (t0.size : Int) := by omega
    go_wp2_with fail
    go_quiet (fail)
    go_wp2_with fail
    go_meet
    case rel => exact ⟨⟨_, rfl, by simp; omega⟩, ⟨_, rfl, by simp; omega⟩, drewN_below w _⟩
  case rest =>
    obtain ⟨⟨S, rfl, hS⟩, ⟨T, rfl, hT⟩, hbw⟩ := hcut
    have HE := Lib.hid (hE.below hbw)
    have HB := Lib.hid (hB.below hbw)
    have HBW := Lib.hid hbw
    clear hs0 ht0 hE hB hbw
    have HP := Lib.hid (Parse_fwd S T (by omega) (by omega) wc HE.out HB.out)
    obtain ⟨hgood, hnd, hl16⟩ := own_law S.data.toList T.data.toList
    have hshort := fwd_short S.data.toList T.data.toList (by rw [list_len]; omega)
    generalize fwdL S.data.toList T.data.toList = l at HP hgood hnd hl16 hshort
    have HGD := Lib.hid hgood
    have HND := Lib.hid hnd
    have HSH := Lib.hid hshort
    clear hgood hnd hshort
    go_wp2_with fail
    refine HP.out.mono ?_
    rintro e w2 ⟨v, rfl, hr, hcp, hb2⟩
    have HR := Lib.hid hr
    have HB2 := Lib.hid (HBW.out.trans (hb2.mono HBW.out.size))
    have HE2 := Lib.hid (HE.out.below hb2)
    have HG2 := Lib.hid (HB.out.below hb2)
    obtain ⟨p, cap, rfl, -⟩ := hr
    have hcap : l.length ≤ cap := by
      have : (l.map up).length ≤ cap := hcp
      rwa [List.length_map] at this
    rw [List.length_map]
    have hrs := HR.out
    rw [List.length_map] at hrs
    have HR := Lib.hid hrs
    clear hb2 hcp hrs
    have h16i : ¬ (16 : Int) < (l.length : Int) := by omega
    have hbb : (!l.isEmpty) = decide ((0 : Int) < (l.length : Int)) := by
      cases l with
      | nil => rfl
      | cons a b =>
        rw [eq_comm]
        show decide _ = true
        rw [decide_eq_true_eq]
        simp only [List.length_cons]
        omega
    rw [hbb]
    clear hbb
    go_wp2_with fail
    go_loopg [37] l.length (fun g v37 W => OwnRel l w2 g v37 W)
    case atStart => exact ⟨0, rfl, Nat.zero_le _, rfl, Below.refl _ _⟩
    case round =>
      obtain ⟨k, rfl, hk, hg, hb⟩ := hrel
      have HG := Lib.hid hg
      have HBR := Lib.hid hb
      clear hg hb
      by_cases hlt : k < l.length
      · have hk0 : (0 : Int) ≤ (k : Int) := by omega
        have hk1 : (k : Int) < (l.length : Int) := by omega
        have hkc : (k : Int) ≤ (cap : Int) := by omega
        have hwk : IntKind.i64.wrap ((k : Int) + 1) = (k : Int) + 1 := by rw [IntKind.wrap_i64]; omega
        have hx := List.getElem?_eq_getElem hlt
        obtain ⟨X, hX⟩ : ∃ X, l[k] = X := ⟨_, rfl⟩
        rw [hX] at hx
        have hmem : X ∈ l := by rw [← hX]; exact List.getElem_mem hlt
        have hgd := HGD.out X hmem
        have hsh := HSH.out X hmem
        have hnc := nodup_take HND.out hx
        have hxu : (l.map up)[k]? = some (up X) := by rw [List.getElem?_map, hx]; rfl
        have hrr := HR.out.below HBR.out
        have hrt := hrr.take k (by rw [List.length_map]; omega) cap
        obtain ⟨p', cap', he, h⟩ := hrr
        obtain rfl : cap = cap' := by injection he
        obtain rfl : p = p' := by injection he
        obtain ⟨b, o, hpb, hc⟩ := grow_at h (by rw [List.length_map]; exact hlt)
        subst hpb
        clear he h
        have HRT := Lib.hid hrt
        obtain ⟨kk, ⟨a, b'⟩, n⟩ := X
        obtain ⟨g1, g4, gown, gt, gne⟩ := hgd
        simp only at g1 g4 gown
        by_cases hk2 : kk = 2
        · subst hk2
          have hsz1 : ShortT (2, (a, b'), n) := hsh
          have d0 := hc k _ hxu 0 (.int .i64 2) rfl
          have d1 := hc k _ hxu 1 (.string ⟨a.toArray⟩) rfl
          have d2 := hc k _ hxu 2 (.string ⟨b'.toArray⟩) rfl
          have d3 := hc k _ hxu 3 (.string ⟨n.toArray⟩) rfl
          rw [Nat.add_zero] at d0
          have htx : textI (up (2, (a, b'), n)) = tellL (2, (a, b'), n) := by rw [textI_up _ (by show (1 : Nat) ≤ 2; omega) (by show (2 : Nat) ≤ 4; omega), if_pos gt]
          obtain ⟨x0, xs, hxs⟩ := List.exists_cons_of_ne_nil gne
          rw [hxs] at htx
          have HB0 := Lib.hid (alloc_below wr (.cells #[.int .i64 2, .string ⟨a.toArray⟩, .string ⟨b'.toArray⟩, .string ⟨n.toArray⟩] 28))
          have HF := Lib.hid (Four4.made wr (.int .i64 2) (.string ⟨a.toArray⟩) (.string ⟨b'.toArray⟩) (.string ⟨n.toArray⟩) 28)
          obtain ⟨wy, hwy⟩ : ∃ wy, wr.alloc (.cells #[.int .i64 2, .string ⟨a.toArray⟩, .string ⟨b'.toArray⟩, .string ⟨n.toArray⟩] 28) = wy := ⟨_, rfl⟩
          rw [hwy] at HB0 HF
          have HBY := Lib.hid (HBR.out.trans (HB0.out.mono HBR.out.size))
          have HLOW := Lib.hid (fun W => Lower_any S (by omega) W)
          have HCT := Lib.hid (fun W (hb : Below wy.heap.size wy W) => Contains_tg ((l.map up).take k) (.slice (some ⟨b, o, none⟩) k cap) (up (2, (a, b'), n)) W ((HRT.out.below HB0.out).below hb) (by rw [List.length_take, List.length_map]; omega))
          rw [hnc] at HCT
          have HTX := Lib.hid (fun W (hb : Below wy.heap.size wy W) => TText_any (up (2, (a, b'), n)) hsz1.2.1 hsz1.2.2.1 hsz1.2.2.2 W ((HE2.out.below HBY.out).below hb) ((HG2.out.below HBY.out).below hb))
          rw [htx] at HTX
          have HCT2 := Lib.hid (fun W (hb : Below wy.heap.size wy W) => show Calls Tryz.prog 12 #[.slice (some ⟨b, o, none⟩) k cap, .agg #[.int .i64 2, .string ⟨a.toArray⟩, .string ⟨b'.toArray⟩, .string ⟨n.toArray⟩]] W fun e w' => e = .returned (.bool false) ∧ Below W.heap.size W w' from HCT.out W hb)
          have HTX2 := Lib.hid (fun W (hb : Below wy.heap.size wy W) => show Calls Tryz.prog 13 #[.agg #[.int .i64 2, .string ⟨a.toArray⟩, .string ⟨b'.toArray⟩, .string ⟨n.toArray⟩]] W fun e w' => e = .returned (.string ⟨(x0 :: xs).toArray⟩) ∧ Below W.heap.size W w' from HTX.out W hb)
          clear HCT HTX
          have HKS := Lib.hid (fun W (hb : Below wy.heap.size wy W) => show W.cell? ⟨wr.heap.size, 0, none⟩ = some (.int .i64 2) ∧ W.cell? ⟨wr.heap.size, 1, none⟩ = some (.string ⟨a.toArray⟩) ∧ W.cell? ⟨wr.heap.size, 2, none⟩ = some (.string ⟨b'.toArray⟩) ∧ W.cell? ⟨wr.heap.size, 3, none⟩ = some (.string ⟨n.toArray⟩) from have h := (HF.out.below hb).c; ⟨h.c0, h.c1, h.c2, h.c3⟩)
          have HOWN := Lib.hid gown
          have hbd := drew_below wy
          have hS := HKS.out _ hbd
          obtain ⟨e0, e1, e2, e3⟩ := HKS.out _ (Below.refl _ wy)
          clear hc hx hX hmem hsh hnc hxu hrt gt gne hxs htx gown hsz1
          have hnl : ¬ n = lowL S.data.toList := fun e => HOWN.out ⟨rfl, e⟩
          generalize lowL S.data.toList = lu at HLOW hnl
          have hbq : (n == lu) = false := by rw [beq_eq_false_iff_ne]; exact hnl
          go_wp2_with fail
          clear d0 d1 d2 d3 e0 e1 e2 e3
          go_region_held3 (fun W => W.cell? ⟨wr.heap.size, 0, none⟩ = some (.int .i64 2) ∧ W.cell? ⟨wr.heap.size, 1, none⟩ = some (.string ⟨a.toArray⟩) ∧ W.cell? ⟨wr.heap.size, 2, none⟩ = some (.string ⟨b'.toArray⟩) ∧ W.cell? ⟨wr.heap.size, 3, none⟩ = some (.string ⟨n.toArray⟩))
            (first | exact hS | exact hS7 | go_keep)
            (first
              | ((with_reducible refine (HLOW.out _).mono ?_); rintro e w9 ⟨rfl, hb9⟩; have hbd9 := hbd.trans (hb9.mono hbd.size); clear hbd hb9; have hbd := hbd9; clear hbd9; have hS7 := HKS.out _ hbd)
              | ((with_reducible refine (HCT2.out _ hbd).mono ?_); rintro e w9 ⟨rfl, hb9⟩; have hbd9 := hbd.trans (hb9.mono hbd.size); clear hbd hb9; have hbd := hbd9; clear hbd9; have hS7 := HKS.out _ hbd)
              | ((with_reducible refine (HTX2.out _ hbd).mono ?_); rintro e w9 ⟨rfl, hb9⟩; have hbd9 := hbd.trans (hb9.mono hbd.size); clear hbd hb9; have hbd := hbd9; clear hbd9; have hS7 := HKS.out _ hbd))
          have HB9 := Lib.hid (HBY.out.trans (hbd.mono HBY.out.size))
          clear hbd hS hS7
          go_wp2_with fail
          go_roundg (l.length - (k + 1))
          case rel => exact ⟨k + 1, by go_num, by omega, rfl, HB9.out⟩
          case measure => have := HG.out; omega
        · have hsz1 : ShortT (kk, (a, b'), n) := hsh
          have d0 := hc k _ hxu 0 (.int .i64 (kk : Int)) rfl
          have d1 := hc k _ hxu 1 (.string ⟨a.toArray⟩) rfl
          have d2 := hc k _ hxu 2 (.string ⟨b'.toArray⟩) rfl
          have d3 := hc k _ hxu 3 (.string ⟨n.toArray⟩) rfl
          rw [Nat.add_zero] at d0
          have htx : textI (up (kk, (a, b'), n)) = tellL (kk, (a, b'), n) := by rw [textI_up _ g1 g4, if_pos gt]
          obtain ⟨x0, xs, hxs⟩ := List.exists_cons_of_ne_nil gne
          rw [hxs] at htx
          have HB0 := Lib.hid (alloc_below wr (.cells #[.int .i64 (kk : Int), .string ⟨a.toArray⟩, .string ⟨b'.toArray⟩, .string ⟨n.toArray⟩] 28))
          have HF := Lib.hid (Four4.made wr (.int .i64 (kk : Int)) (.string ⟨a.toArray⟩) (.string ⟨b'.toArray⟩) (.string ⟨n.toArray⟩) 28)
          obtain ⟨wy, hwy⟩ : ∃ wy, wr.alloc (.cells #[.int .i64 (kk : Int), .string ⟨a.toArray⟩, .string ⟨b'.toArray⟩, .string ⟨n.toArray⟩] 28) = wy := ⟨_, rfl⟩
          rw [hwy] at HB0 HF
          have HBY := Lib.hid (HBR.out.trans (HB0.out.mono HBR.out.size))
          have HLOW := Lib.hid (fun W => Lower_any S (by omega) W)
          have HCT := Lib.hid (fun W (hb : Below wy.heap.size wy W) => Contains_tg ((l.map up).take k) (.slice (some ⟨b, o, none⟩) k cap) (up (kk, (a, b'), n)) W ((HRT.out.below HB0.out).below hb) (by rw [List.length_take, List.length_map]; omega))
          rw [hnc] at HCT
          have HTX := Lib.hid (fun W (hb : Below wy.heap.size wy W) => TText_any (up (kk, (a, b'), n)) hsz1.2.1 hsz1.2.2.1 hsz1.2.2.2 W ((HE2.out.below HBY.out).below hb) ((HG2.out.below HBY.out).below hb))
          rw [htx] at HTX
          have HCT2 := Lib.hid (fun W (hb : Below wy.heap.size wy W) => show Calls Tryz.prog 12 #[.slice (some ⟨b, o, none⟩) k cap, .agg #[.int .i64 (kk : Int), .string ⟨a.toArray⟩, .string ⟨b'.toArray⟩, .string ⟨n.toArray⟩]] W fun e w' => e = .returned (.bool false) ∧ Below W.heap.size W w' from HCT.out W hb)
          have HTX2 := Lib.hid (fun W (hb : Below wy.heap.size wy W) => show Calls Tryz.prog 13 #[.agg #[.int .i64 (kk : Int), .string ⟨a.toArray⟩, .string ⟨b'.toArray⟩, .string ⟨n.toArray⟩]] W fun e w' => e = .returned (.string ⟨(x0 :: xs).toArray⟩) ∧ Below W.heap.size W w' from HTX.out W hb)
          clear HCT HTX
          have HKS := Lib.hid (fun W (hb : Below wy.heap.size wy W) => show W.cell? ⟨wr.heap.size, 0, none⟩ = some (.int .i64 (kk : Int)) ∧ W.cell? ⟨wr.heap.size, 1, none⟩ = some (.string ⟨a.toArray⟩) ∧ W.cell? ⟨wr.heap.size, 2, none⟩ = some (.string ⟨b'.toArray⟩) ∧ W.cell? ⟨wr.heap.size, 3, none⟩ = some (.string ⟨n.toArray⟩) from have h := (HF.out.below hb).c; ⟨h.c0, h.c1, h.c2, h.c3⟩)
          have HOWN := Lib.hid gown
          have hbd := drew_below wy
          have hS := HKS.out _ hbd
          obtain ⟨e0, e1, e2, e3⟩ := HKS.out _ (Below.refl _ wy)
          clear hc hx hX hmem hsh hnc hxu hrt gt gne hxs htx gown hsz1
          have n1 : decide ((kk : Int) < 1) = false := by rw [decide_eq_false_iff_not]; omega
          have n4 : decide ((4 : Int) < (kk : Int)) = false := by rw [decide_eq_false_iff_not]; omega
          have n1' : ¬ (kk : Int) < 1 := by omega
          have n1'' : (1 : Int) ≤ (kk : Int) := by omega
          have n4' : (kk : Int) ≤ 4 := by omega
          have n2 : ((kk : Int) == 2) = false := by rw [beq_eq_false_iff_ne]; omega
          have n2' : ¬ (kk : Int) = 2 := by omega
          go_wp2_with fail
          clear d0 d1 d2 d3 e0 e1 e2 e3
          refine wp_region_marked (S := (fun W => W.cell? ⟨wr.heap.size, 0, none⟩ = some (.int .i64 (kk : Int)) ∧ W.cell? ⟨wr.heap.size, 1, none⟩ = some (.string ⟨a.toArray⟩) ∧ W.cell? ⟨wr.heap.size, 2, none⟩ = some (.string ⟨b'.toArray⟩) ∧ W.cell? ⟨wr.heap.size, 3, none⟩ = some (.string ⟨n.toArray⟩))) 31 (by kernel_rfl) hS (fun hHeld => ?_)
          refine wpAnyM_take (i := 0) (oi := _) (v := .pointer (some ⟨wr.heap.size, 0, none⟩)) rfl (by kernel_rfl) (by kernel_rfl) (by kernel_rfl) (fun _ _ _ h => h) (by kernel_rfl) (by kernel_rfl) (Or.inl ⟨by kernel_rfl, ?_⟩) (by assumption) ?_
          · (intro w hSw; (try dsimp only at hSw); go_simp)
          try simp only [List.getElem_toArray, List.getElem_cons_zero, List.getElem_cons_succ, Act.put, List.setIfInBounds_toArray, List.set_cons_zero, List.set_cons_succ]
          refine wpAnyM_take (i := 1) (oi := _) (v := .int .i64 (kk : Int)) rfl (by kernel_rfl) (by kernel_rfl) (by kernel_rfl) (fun _ _ _ h => h) (by kernel_rfl) (by kernel_rfl) (Or.inl ⟨by kernel_rfl, ?_⟩) (by assumption) ?_
          · (intro w hSw; (try dsimp only at hSw); go_simp)
          try simp only [List.getElem_toArray, List.getElem_cons_zero, List.getElem_cons_succ, Act.put, List.setIfInBounds_toArray, List.set_cons_zero, List.set_cons_succ]
          refine wpAnyM_take (i := 2) (oi := _) (v := .bool false) rfl (by kernel_rfl) (by kernel_rfl) (by kernel_rfl) (fun _ _ _ h => h) (by kernel_rfl) (by kernel_rfl) (Or.inl ⟨by kernel_rfl, ?_⟩) (by assumption) ?_
          · (intro w hSw; (try dsimp only at hSw); go_simp)
          try simp only [List.getElem_toArray, List.getElem_cons_zero, List.getElem_cons_succ, Act.put, List.setIfInBounds_toArray, List.set_cons_zero, List.set_cons_succ]
          refine wpAnyM_take (i := 3) (oi := _) (v := .bool false) rfl (by kernel_rfl) (by kernel_rfl) (by kernel_rfl) (fun _ _ _ h => h) (by kernel_rfl) (by kernel_rfl) (Or.inl ⟨by kernel_rfl, ?_⟩) (by assumption) ?_
          · (intro w hSw; (try dsimp only at hSw); go_simp)
          try simp only [List.getElem_toArray, List.getElem_cons_zero, List.getElem_cons_succ, Act.put, List.setIfInBounds_toArray, List.set_cons_zero, List.set_cons_succ]
          refine wpAnyM_take (i := 4) (oi := _) (v := .pointer (some ⟨wr.heap.size, 0, none⟩)) rfl (by kernel_rfl) (by kernel_rfl) (by kernel_rfl) (fun _ _ _ h => h) (by kernel_rfl) (by kernel_rfl) (Or.inl ⟨by kernel_rfl, ?_⟩) (by assumption) ?_
          · (intro w hSw; (try dsimp only at hSw); go_simp)
          try simp only [List.getElem_toArray, List.getElem_cons_zero, List.getElem_cons_succ, Act.put, List.setIfInBounds_toArray, List.set_cons_zero, List.set_cons_succ]
          refine wpAnyM_take (i := 5) (oi := _) (v := .int .i64 (kk : Int)) rfl (by kernel_rfl) (by kernel_rfl) (by kernel_rfl) (fun _ _ _ h => h) (by kernel_rfl) (by kernel_rfl) (Or.inl ⟨by kernel_rfl, ?_⟩) (by assumption) ?_
          · (intro w hSw; (try dsimp only at hSw); go_simp)
          try simp only [List.getElem_toArray, List.getElem_cons_zero, List.getElem_cons_succ, Act.put, List.setIfInBounds_toArray, List.set_cons_zero, List.set_cons_succ]
          refine wpAnyM_take (i := 6) (oi := _) (v := .bool false) rfl (by kernel_rfl) (by kernel_rfl) (by kernel_rfl) (fun _ _ _ h => h) (by kernel_rfl) (by kernel_rfl) (Or.inl ⟨by kernel_rfl, ?_⟩) (by assumption) ?_
          · (intro w hSw; (try dsimp only at hSw); go_simp)
          try simp only [List.getElem_toArray, List.getElem_cons_zero, List.getElem_cons_succ, Act.put, List.setIfInBounds_toArray, List.set_cons_zero, List.set_cons_succ]
          refine wpAnyM_take (i := 7) (oi := _) (v := .bool false) rfl (by kernel_rfl) (by kernel_rfl) (by kernel_rfl) (fun _ _ _ h => h) (by kernel_rfl) (by kernel_rfl) (Or.inl ⟨by kernel_rfl, ?_⟩) (by assumption) ?_
          · (intro w hSw; (try dsimp only at hSw); go_simp)
          try simp only [List.getElem_toArray, List.getElem_cons_zero, List.getElem_cons_succ, Act.put, List.setIfInBounds_toArray, List.set_cons_zero, List.set_cons_succ]
          refine wpAnyM_take (i := 8) (oi := _) (v := .bool false) rfl (by kernel_rfl) (by kernel_rfl) (by kernel_rfl) (fun _ _ _ h => h) (by kernel_rfl) (by kernel_rfl) (Or.inl ⟨by kernel_rfl, ?_⟩) (by assumption) ?_
          · (intro w hSw; (try dsimp only at hSw); go_simp)
          try simp only [List.getElem_toArray, List.getElem_cons_zero, List.getElem_cons_succ, Act.put, List.setIfInBounds_toArray, List.set_cons_zero, List.set_cons_succ]
          refine wpAnyM_take (i := 9) (oi := _) (v := .pointer (some ⟨wr.heap.size, 0, none⟩)) rfl (by kernel_rfl) (by kernel_rfl) (by kernel_rfl) (fun _ _ _ h => h) (by kernel_rfl) (by kernel_rfl) (Or.inl ⟨by kernel_rfl, ?_⟩) (by assumption) ?_
          · (intro w hSw; (try dsimp only at hSw); go_simp)
          try simp only [List.getElem_toArray, List.getElem_cons_zero, List.getElem_cons_succ, Act.put, List.setIfInBounds_toArray, List.set_cons_zero, List.set_cons_succ]
          refine wpAnyM_take (i := 10) (oi := _) (v := .int .i64 (kk : Int)) rfl (by kernel_rfl) (by kernel_rfl) (by kernel_rfl) (fun _ _ _ h => h) (by kernel_rfl) (by kernel_rfl) (Or.inl ⟨by kernel_rfl, ?_⟩) (by assumption) ?_
          · (intro w hSw; (try dsimp only at hSw); go_simp)
          try simp only [List.getElem_toArray, List.getElem_cons_zero, List.getElem_cons_succ, Act.put, List.setIfInBounds_toArray, List.set_cons_zero, List.set_cons_succ]
          refine wpAnyM_take (i := 11) (oi := _) (v := .bool false) rfl (by kernel_rfl) (by kernel_rfl) (by kernel_rfl) (fun _ _ _ h => h) (by kernel_rfl) (by kernel_rfl) (Or.inl ⟨by kernel_rfl, ?_⟩) (by assumption) ?_
          · (intro w hSw; (try dsimp only at hSw); go_simp)
          try simp only [List.getElem_toArray, List.getElem_cons_zero, List.getElem_cons_succ, Act.put, List.setIfInBounds_toArray, List.set_cons_zero, List.set_cons_succ]
          refine wpAnyM_take (i := 12) (oi := _) (v := .bool false) rfl (by kernel_rfl) (by kernel_rfl) (by kernel_rfl) (fun _ _ _ h => h) (by kernel_rfl) (by kernel_rfl) (Or.inl ⟨by kernel_rfl, ?_⟩) (by assumption) ?_
          · (intro w hSw; (try dsimp only at hSw); go_simp)
          try simp only [List.getElem_toArray, List.getElem_cons_zero, List.getElem_cons_succ, Act.put, List.setIfInBounds_toArray, List.set_cons_zero, List.set_cons_succ]
          refine wpAnyM_take (i := 13) (oi := _) (v := undef) rfl (by kernel_rfl) (by kernel_rfl) (by kernel_rfl) (fun _ _ _ h => h) (by kernel_rfl) (by kernel_rfl) (Or.inr ⟨by kernel_rfl, rfl⟩) (by assumption) ?_
          try simp only [List.getElem_toArray, List.getElem_cons_zero, List.getElem_cons_succ, Act.put, List.setIfInBounds_toArray, List.set_cons_zero, List.set_cons_succ]
          refine wpAnyM_take (i := 14) (oi := _) (v := undef) rfl (by kernel_rfl) (by kernel_rfl) (by kernel_rfl) (fun _ _ _ h => h) (by kernel_rfl) (by kernel_rfl) (Or.inr ⟨by kernel_rfl, rfl⟩) (by assumption) ?_
          try simp only [List.getElem_toArray, List.getElem_cons_zero, List.getElem_cons_succ, Act.put, List.setIfInBounds_toArray, List.set_cons_zero, List.set_cons_succ]
          refine wpAnyM_take (i := 15) (oi := _) (v := undef) rfl (by kernel_rfl) (by kernel_rfl) (by kernel_rfl) (fun _ _ _ h => h) (by kernel_rfl) (by kernel_rfl) (Or.inr ⟨by kernel_rfl, rfl⟩) (by assumption) ?_
          try simp only [List.getElem_toArray, List.getElem_cons_zero, List.getElem_cons_succ, Act.put, List.setIfInBounds_toArray, List.set_cons_zero, List.set_cons_succ]
          refine wpAnyM_take (i := 16) (oi := _) (v := undef) rfl (by kernel_rfl) (by kernel_rfl) (by kernel_rfl) (fun _ _ _ h => h) (by kernel_rfl) (by kernel_rfl) (Or.inr ⟨by kernel_rfl, rfl⟩) (by assumption) ?_
          try simp only [List.getElem_toArray, List.getElem_cons_zero, List.getElem_cons_succ, Act.put, List.setIfInBounds_toArray, List.set_cons_zero, List.set_cons_succ]
          refine wpAnyM_take (i := 17) (oi := _) (v := undef) rfl (by kernel_rfl) (by kernel_rfl) (by kernel_rfl) (fun _ _ _ h => h) (by kernel_rfl) (by kernel_rfl) (Or.inr ⟨by kernel_rfl, rfl⟩) (by assumption) ?_
          try simp only [List.getElem_toArray, List.getElem_cons_zero, List.getElem_cons_succ, Act.put, List.setIfInBounds_toArray, List.set_cons_zero, List.set_cons_succ]
          refine wpAnyM_take (i := 18) (oi := _) (v := .bool false) rfl (by kernel_rfl) (by kernel_rfl) (by kernel_rfl) (fun _ _ _ h => h) (by kernel_rfl) (by kernel_rfl) (Or.inl ⟨by kernel_rfl, ?_⟩) (by assumption) ?_
          · (intro w hSw; (try dsimp only at hSw); go_simp)
          try simp only [List.getElem_toArray, List.getElem_cons_zero, List.getElem_cons_succ, Act.put, List.setIfInBounds_toArray, List.set_cons_zero, List.set_cons_succ]
          refine wpAnyM_take (i := 19) (oi := _) (v := .bool false) rfl (by kernel_rfl) (by kernel_rfl) (by kernel_rfl) (fun _ _ _ h => h) (by kernel_rfl) (by kernel_rfl) (Or.inl ⟨by kernel_rfl, ?_⟩) (by assumption) ?_
          · (intro w hSw; (try dsimp only at hSw); go_simp)
          try simp only [List.getElem_toArray, List.getElem_cons_zero, List.getElem_cons_succ, Act.put, List.setIfInBounds_toArray, List.set_cons_zero, List.set_cons_succ]
          refine wpAnyM_take (i := 20) (oi := _) (v := .bool false) rfl (by kernel_rfl) (by kernel_rfl) (by kernel_rfl) (fun _ _ _ h => h) (by kernel_rfl) (by kernel_rfl) (Or.inl ⟨by kernel_rfl, ?_⟩) (by assumption) ?_
          · (intro w hSw; (try dsimp only at hSw); go_simp)
          try simp only [List.getElem_toArray, List.getElem_cons_zero, List.getElem_cons_succ, Act.put, List.setIfInBounds_toArray, List.set_cons_zero, List.set_cons_succ]
          refine wpAnyM_take (i := 21) (oi := _) (v := .slice (some ⟨b, o, none⟩) l.length cap) rfl (by kernel_rfl) (by kernel_rfl) (by kernel_rfl) (fun _ _ _ h => h) (by kernel_rfl) (by kernel_rfl) (Or.inl ⟨by kernel_rfl, ?_⟩) (by assumption) ?_
          · (intro w hSw; (try dsimp only at hSw); go_simp)
          try simp only [List.getElem_toArray, List.getElem_cons_zero, List.getElem_cons_succ, Act.put, List.setIfInBounds_toArray, List.set_cons_zero, List.set_cons_succ]
          refine wpAnyM_take (i := 22) (oi := _) (v := .int .i64 (k : Int)) rfl (by kernel_rfl) (by kernel_rfl) (by kernel_rfl) (fun _ _ _ h => h) (by kernel_rfl) (by kernel_rfl) (Or.inl ⟨by kernel_rfl, ?_⟩) (by assumption) ?_
          · (intro w hSw; (try dsimp only at hSw); go_simp)
          try simp only [List.getElem_toArray, List.getElem_cons_zero, List.getElem_cons_succ, Act.put, List.setIfInBounds_toArray, List.set_cons_zero, List.set_cons_succ]
          refine wpAnyM_take (i := 23) (oi := _) (v := .slice (some ⟨b, o, none⟩) k cap) rfl (by kernel_rfl) (by kernel_rfl) (by kernel_rfl) (fun _ _ _ h => h) (by kernel_rfl) (by kernel_rfl) (Or.inl ⟨by kernel_rfl, ?_⟩) (by assumption) ?_
          · (intro w hSw; (try dsimp only at hSw); go_simp)
          try simp only [List.getElem_toArray, List.getElem_cons_zero, List.getElem_cons_succ, Act.put, List.setIfInBounds_toArray, List.set_cons_zero, List.set_cons_succ]
          refine wpAnyM_take (i := 24) (oi := _) (v := (.agg #[.int .i64 (kk : Int), .string ⟨a.toArray⟩, .string ⟨b'.toArray⟩, .string ⟨n.toArray⟩])) rfl (by kernel_rfl) (by kernel_rfl) (by kernel_rfl) (fun _ _ _ h => h) (by kernel_rfl) (by kernel_rfl) (Or.inl ⟨by kernel_rfl, ?_⟩) (by assumption) ?_
          · (intro w hSw; (try dsimp only at hSw); go_simp)
          try simp only [List.getElem_toArray, List.getElem_cons_zero, List.getElem_cons_succ, Act.put, List.setIfInBounds_toArray, List.set_cons_zero, List.set_cons_succ]
          refine wpAnyM_one (i := 25) (o := _) rfl (by kernel_rfl) (fun K hK => ?_)
          go_simp
          refine (HCT2.out _ hbd).mono ?_
          rintro e w9 ⟨rfl, hb9⟩
          have hbd9 := hbd.trans (hb9.mono hbd.size)
          clear hbd hb9
          have hbd := hbd9
          clear hbd9
          have hS7 := HKS.out _ hbd
          refine hK.out _ _ (fun _ => hS7) (fun hHeld => ?_)
          clear hK K
          try have hHeld := hHeld (by decide)
          try simp only [List.getElem_toArray, List.getElem_cons_zero, List.getElem_cons_succ, Act.put, List.setIfInBounds_toArray, List.set_cons_zero, List.set_cons_succ]
          refine wpAnyM_take (i := 26) (oi := _) (v := .bool false) rfl (by kernel_rfl) (by kernel_rfl) (by kernel_rfl) (fun _ _ _ h => h) (by kernel_rfl) (by kernel_rfl) (Or.inl ⟨by kernel_rfl, ?_⟩) (by assumption) ?_
          · (intro w hSw; (try dsimp only at hSw); go_simp)
          try simp only [List.getElem_toArray, List.getElem_cons_zero, List.getElem_cons_succ, Act.put, List.setIfInBounds_toArray, List.set_cons_zero, List.set_cons_succ]
          refine wpAnyM_take (i := 27) (oi := _) (v := .bool false) rfl (by kernel_rfl) (by kernel_rfl) (by kernel_rfl) (fun _ _ _ h => h) (by kernel_rfl) (by kernel_rfl) (Or.inl ⟨by kernel_rfl, ?_⟩) (by assumption) ?_
          · (intro w hSw; (try dsimp only at hSw); go_simp)
          try simp only [List.getElem_toArray, List.getElem_cons_zero, List.getElem_cons_succ, Act.put, List.setIfInBounds_toArray, List.set_cons_zero, List.set_cons_succ]
          refine wpAnyM_take (i := 28) (oi := _) (v := (.agg #[.int .i64 (kk : Int), .string ⟨a.toArray⟩, .string ⟨b'.toArray⟩, .string ⟨n.toArray⟩])) rfl (by kernel_rfl) (by kernel_rfl) (by kernel_rfl) (fun _ _ _ h => h) (by kernel_rfl) (by kernel_rfl) (Or.inl ⟨by kernel_rfl, ?_⟩) (by assumption) ?_
          · (intro w hSw; (try dsimp only at hSw); go_simp)
          try simp only [List.getElem_toArray, List.getElem_cons_zero, List.getElem_cons_succ, Act.put, List.setIfInBounds_toArray, List.set_cons_zero, List.set_cons_succ]
          refine wpAnyM_one (i := 29) (o := _) rfl (by kernel_rfl) (fun K hK => ?_)
          go_simp
          refine (HTX2.out _ hbd).mono ?_
          rintro e w9 ⟨rfl, hb9⟩
          have hbd9 := hbd.trans (hb9.mono hbd.size)
          clear hbd hb9
          have hbd := hbd9
          clear hbd9
          have hS8 := HKS.out _ hbd
          refine hK.out _ _ (fun _ => hS8) (fun hHeld => ?_)
          clear hK K
          try have hHeld := hHeld (by decide)
          try simp only [List.getElem_toArray, List.getElem_cons_zero, List.getElem_cons_succ, Act.put, List.setIfInBounds_toArray, List.set_cons_zero, List.set_cons_succ]
          refine wpAnyM_take (i := 30) (oi := _) (v := .bool false) rfl (by kernel_rfl) (by kernel_rfl) (by kernel_rfl) (fun _ _ _ h => h) (by kernel_rfl) (by kernel_rfl) (Or.inl ⟨by kernel_rfl, ?_⟩) (by assumption) ?_
          · (intro w hSw; (try dsimp only at hSw); go_simp)
          try simp only [List.getElem_toArray, List.getElem_cons_zero, List.getElem_cons_succ, Act.put, List.setIfInBounds_toArray, List.set_cons_zero, List.set_cons_succ]
          refine wpAnyM_one (i := 31) (o := _) rfl (by kernel_rfl) (fun K hK => ?_)
          go_simp
          refine hK.out _ _ (fun h => (h rfl).elim) (fun hHeld => ?_)
          clear hK K hHeld
          try simp only [List.getElem_toArray, List.getElem_cons_zero, List.getElem_cons_succ, Act.put, List.setIfInBounds_toArray, List.set_cons_zero, List.set_cons_succ]
          refine wpAnyM_done (by kernel_rfl) ?_ _
          have HB9 := Lib.hid (HBY.out.trans (hbd.mono HBY.out.size))
          clear hbd hS hS7 hS8
          go_wp2_with fail
          go_roundg (l.length - (k + 1))
          case rel => exact ⟨k + 1, by go_num, by omega, rfl, HB9.out⟩
          case measure => have := HG.out; omega
      · have hge : ¬ (k : Int) < (l.length : Int) := by omega
        have HTA := Lib.hid (tells_any wr (HE2.out.below HBR.out) (HG2.out.below HBR.out))
        go_wp2_with fail
        refine HTA.out.mono ?_
        rintro e w9 ⟨rfl, hb9⟩
        go_wp2
        go_ret
        exact ⟨rfl, HB2.out.trans ((HBR.out.trans (hb9.mono HBR.out.size)).mono HB2.out.size)⟩
end Go.Proofs.YtkoncmmbdlnmfaaGreatDoor
