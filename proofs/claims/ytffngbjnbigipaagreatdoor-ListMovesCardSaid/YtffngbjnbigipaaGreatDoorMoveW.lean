/- The law ListMoves, walked: it returns true for whatever text and addresses. -/
import Derived.Test.YtffngbjnbigipaaGreatDoorMvX
import Derived.Deep.RegionHeld3
namespace Go.Proofs.YtffngbjnbigipaaGreatDoor
open Go.RowKit Go.Lib
set_option linter.unusedSimpArgs false
set_option linter.unusedVariables false
set_option linter.unnecessarySimpa false
set_option maxRecDepth 100000

theorem ba_back (s : ByteArray) : (⟨s.data.toList.toArray⟩ : ByteArray) = s := by cases s; simp
theorem ba_eq {a b : ByteArray} (h : a.data.toList = b.data.toList) : a = b := by
  apply ByteArray.ext
  apply Array.ext'
  exact h
theorem putL_len (s : List UInt8) (l : List Ad) (T : Nat) (hT : ∀ a ∈ l, (textL a).length ≤ T) : (putL s l).1.length ≤ 64 * (2 * s.length + T) + s.length := by
  unfold putL
  split
  · simp
  · split
    · simp
    · split
      · simp
      · split
        · simp
        · have h1 := putUp_len (s := s) (sp := (findL s).1) (l := l) hT (findL s).1.length
          have h2 := findL_len s
          have h3 := Nat.mul_le_mul_right (2 * s.length + T) h2
          simp only [List.length_append, List.length_drop]
          omega
theorem find_none {s : List UInt8} (h : (findL s).2 ≠ 0) : (findL s).1 = [] ∧ ((findL s).2 = 5 ∨ (findL s).2 = 3 ∨ (findL s).2 = 7) := by
  revert h
  unfold findL
  split
  · simp
  · split
    · simp
    · split
      · simp
      · split
        · simp
        · simp
/-- the addresses put: the own ones, gone through again and again. -/
def putOf (own : List Ad) (n : Nat) : List Ad := (List.range n).map fun k => own[k % own.length]?.getD ([], [])
theorem putOf_len (own : List Ad) (n : Nat) : (putOf own n).length = n := by simp [putOf]
theorem putOf_get (own : List Ad) {n k : Nat} (hk : k < n) (h0 : 0 < own.length) : ∃ a, own[k % own.length]? = some a ∧ (putOf own n)[k]? = some a ∧ a ∈ own := by
  have hlt : k % own.length < own.length := Nat.mod_lt _ h0
  refine ⟨own[k % own.length], List.getElem?_eq_getElem hlt, ?_, List.getElem_mem hlt⟩
  unfold putOf
  rw [List.getElem?_map, List.getElem?_range hk]
  simp only [Option.map_some]
  rw [List.getElem?_eq_getElem hlt]
  rfl
theorem putOf_mem {own : List Ad} {n : Nat} (h0 : 0 < own.length) {a : Ad} (h : a ∈ putOf own n) : a ∈ own := by
  obtain ⟨k, hk⟩ := List.getElem?_of_mem h
  have hlt := (List.getElem?_eq_some_iff.1 hk).1
  rw [putOf_len] at hlt
  obtain ⟨b, -, h2, h3⟩ := putOf_get own hlt h0
  rw [h2] at hk
  injection hk with hk
  rw [← hk]
  exact h3
theorem ads_take {l : List Ad} {k : Nat} {a : Ad} (h : l[k]? = some a) : adsC (l.take (k + 1)) = adsC (l.take k) ++ [.string ⟨a.1.toArray⟩, .string ⟨a.2.toArray⟩] := by
  obtain ⟨hk, he⟩ := List.getElem?_eq_some_iff.1 h
  unfold adsC
  rw [List.take_succ_eq_append_getElem hk, he, List.flatMap_append]
  simp [adC]
def MoRel (own : List Ad) (sp : List Sp) (w : World) (g : Nat) (v8 v9 v69 : Value) (W : World) : Prop :=
  ∃ (k : Nat) (u u' : Value), v69 = .int .i64 (k : Int) ∧ u = v8 ∧ u' = v9 ∧ k ≤ sp.length ∧ g = sp.length - k ∧
    Rows2 W w.heap.size u k (adsC ((sp.map fun x => x.2.2).take k)) u' k (adsC ((putOf own sp.length).take k)) ∧ Below w.heap.size w W
def MoCut (own : List Ad) (sp : List Sp) (w : World) (k : Nat) (v8 v9 : Value) (W : World) : Prop :=
  ∃ u u' : Value, u = v8 ∧ u' = v9 ∧ Rows2 W w.heap.size u (k + 1) (adsC ((sp.map fun x => x.2.2).take (k + 1))) u' (k + 1) (adsC ((putOf own sp.length).take (k + 1))) ∧ Below w.heap.size w W
def MvRel (sp other : List Sp) (w : World) (g : Nat) (v18 v19 v131 : Value) (W : World) : Prop :=
  ∃ k : Nat, v131 = .int .i64 (k : Int) ∧ v18 = .int .i64 (endOf sp k : Nat) ∧ v19 = .int .i64 (endOf other k : Nat) ∧ k ≤ sp.length ∧ g = sp.length - k ∧ Below w.heap.size w W
set_option maxHeartbeats 16000000 in
theorem moves_any (s0 : ByteArray) (hs0 : s0.size ≤ 140737488351232) (v : Value) (m : Nat) (X Y : Nat → ByteArray) (w : World) (h : InRow w v m X Y) (hm : m ≤ 9223372036854775807) (hcap : ∃ p cap, v = .slice p m cap ∧ m ≤ cap ∧ (p = none → m = 0))
    (hE : Env w) (hT : Lib.Utf8Tabs 4 5 w) :
    Calls Tryz.prog 8 #[.string s0, v] w fun e w' => e = .returned (.bool true) ∧ Below w.heap.size w w' := by
  have HE := Lib.hid hE
  have HT := Lib.hid hT
  obtain ⟨p, cap, rfl, hmc, hpn⟩ := hcap
  obtain ⟨p', cap', he, hin⟩ := h
  obtain rfl : cap = cap' := by injection he
  obtain rfl : p = p' := by injection he
  clear he hE hT
  have h0 : (0 : Int) ≤ min (s0.size : Int) 500 := by omega
  have h1 : min (s0.size : Int) 500 ≤ (s0.size : Int) := by omega
  have hS : (s0.extract 0 (min (s0.size : Int) 500).toNat).size ≤ 500 := by simp; omega
  obtain ⟨k0, hk0⟩ : ∃ k0 : Nat, k0 = (min (m : Int) 64).toNat := ⟨_, rfl⟩
  have hk64 : k0 ≤ 64 := by omega
  have hkm : k0 ≤ m := by omega
  have j0 : (0 : Int) ≤ min (m : Int) 64 := by omega
  have j1 : min (m : Int) 64 ≤ (cap : Int) := by omega
  obtain ⟨v1, w1, hrun, ⟨X', Y', hrow1⟩, hb1⟩ := app_last w p k0 X Y (fun e => by have := hpn e; omega) (by
    rcases hin with h | ⟨b, o, hp, hc⟩
    · exact .inl (by omega)
    · exact .inr ⟨b, o, hp, fun i hi => hc i (by omega)⟩) (by omega)
  have HB1 := Lib.hid hb1
  have HE1 := Lib.hid (HE.out.below hb1)
  have HMADE := Lib.hid (made_any v1 (k0 + 1) 65 X' Y' w1 hrow1 (by omega) (by omega) (tabs_below HT.out hb1))
  rw [hk0] at hrun
  clear hb1 hrow1 hin HT
  go_enter Tryz.func8, Tryz.ntmps8
  go_wp2_with (at_builtin; refine app_run rfl _ _ 48 rfl rfl _ _ _ _ rfl rfl hrun ?_)
  refine HMADE.out.mono ?_
  rintro e w2 ⟨v5, rfl, own, hrow, hol, hM, hb2⟩
  have HB2 := Lib.hid (HB1.out.trans (hb2.mono HB1.out.size))
  have HE2 := Lib.hid (HE1.out.below hb2)
  have HOWN := Lib.hid hrow
  have HMD := Lib.hid hM
  have hown0 : 0 < own.length := by omega
  have HOL := Lib.hid (show own.length ≤ 65 by omega)
  clear hb2 hM hol HMADE hk64 hkm hmc hrun hs0 h0 h1 j0 j1 hk0
  generalize s0.extract 0 (min (s0.size : Int) 500).toNat = S at hS ⊢
  obtain ⟨p5, c5, rfl, -⟩ := hrow
  have HFD := Lib.hid (Find_row S (by omega) w2 HE2.out)
  go_wp2_with fail
  refine HFD.out.mono ?_
  rintro e w3 ⟨v6, rfl, hsr, hb3⟩
  have HB3 := Lib.hid (HB2.out.trans (hb3.mono HB2.out.size))
  have HE3 := Lib.hid (HE2.out.below hb3)
  have HOWN3 := Lib.hid (HOWN.out.below hb3)
  clear hb3 HFD HOWN
  by_cases hz : (findL S.data.toList).2 = 0
  · obtain ⟨sp, hsp⟩ : ∃ sp, findL S.data.toList = (sp, 0) := ⟨_, Prod.ext rfl hz⟩
    rw [hsp] at hsr ⊢
    clear hz
    simp only at hsr ⊢
    have HSP := Lib.hid hsp
    have HSR := Lib.hid hsr
    obtain ⟨p6, c6, rfl, -⟩ := hsr
    clear hsp
    have hlen := (find_inv HSP.out).2
    go_wp2_with fail
    go_loopg [8, 9, 69] sp.length (fun g v8 v9 v69 W => MoRel own sp w3 g v8 v9 v69 W)
    case atStart => exact ⟨0, _, _, rfl, rfl, rfl, Nat.zero_le _, rfl, ⟨World.ownsRow_nil _ _ _ _, World.ownsRow_nil _ _ _ _, fun g hg => by simp [Value.ownBlock] at hg, Nat.le_refl _⟩, Below.refl _ _⟩
    case round =>
      obtain ⟨k, u8, u9, rfl, rfl, rfl, hk, hg, hrr, hb⟩ := hrel
      have HG := Lib.hid hg
      have HB := Lib.hid hb
      have HR := Lib.hid hrr
      clear hg hb hrr
      by_cases hlt : k < sp.length
      · have hk0 : (0 : Int) ≤ (k : Int) := by omega
        have hk1 : (k : Int) < (sp.length : Int) := by omega
        have hk5 : k ≤ 100000 := by omega
        have hwk : IntKind.i64.wrap ((k : Int) + 1) = (k : Int) + 1 := by rw [IntKind.wrap_i64]; omega
        obtain ⟨p', cap', he, h⟩ := HOWN3.out.below HB.out
        obtain rfl : c5 = cap' := by injection he
        obtain rfl : p5 = p' := by injection he
        obtain ⟨bb, hpb, hc⟩ := arow_at h (show k % own.length < own.length from Nat.mod_lt _ hown0)
        subst hpb
        clear he
        obtain ⟨pb', capb', he, h'⟩ := HSR.out.below HB.out
        obtain rfl : c6 = capb' := by injection he
        obtain rfl : p6 = pb' := by injection he
        obtain ⟨ba, hpb, hc'⟩ := srow_at h' hlt
        subst hpb
        clear he h h'
        obtain ⟨a, ha1, ha2, -⟩ := putOf_get own hlt hown0
        have had := hc _ _ ha1
        have hxk : (sp.map fun x => x.2.2)[k]? = some sp[k].2.2 := by rw [List.getElem?_map, List.getElem?_eq_getElem hlt]; rfl
        have HA8 := Lib.hid (ads_take hxk)
        have HA9 := Lib.hid (ads_take ha2)
        obtain ⟨c0, c1, c2, c3⟩ := hc' k _ (List.getElem?_eq_getElem hlt)
        generalize sp[k] = x at *
        obtain ⟨f, t, lo, dm⟩ := x
        obtain ⟨al, ad⟩ := a
        obtain ⟨d0, d1⟩ := had
        simp only at c0 c1 c2 c3 d0 d1 HA8 HA9
        generalize (⟨lo.toArray⟩ : ByteArray) = Xl at *
        generalize (⟨dm.toArray⟩ : ByteArray) = Xd at *
        generalize (⟨al.toArray⟩ : ByteArray) = Ul at *
        generalize (⟨ad.toArray⟩ : ByteArray) = Ud at *
        have hri0 : (0 : Int) ≤ (k : Int) % (own.length : Int) := by omega
        have hri : (k : Int) % (own.length : Int) < (own.length : Int) := Int.emod_lt_of_pos _ (by omega)
        have hol0 : ¬ (own.length : Int) = 0 := by omega
        have hol2 : ¬ own.length = 0 := by omega
        have htn : ((k : Int) % (own.length : Int)).toNat = k % own.length := by
          rw [show (k : Int) % (own.length : Int) = ((k % own.length : Nat) : Int) from (Int.natCast_emod k own.length).symm]
          rfl
        have htm : (k : Int).tmod (own.length : Int) = (k : Int) % (own.length : Int) := Int.tmod_eq_emod_of_nonneg hk0
        have hol3 : ¬ own = [] := fun e => by rw [e] at hown0; simp at hown0
        have hC := SpBlk.made wr (f : Int) (t : Int) Xl Xd
        have hbN := alloc_below wr (.cells #[.int .i64 (f : Int), .int .i64 (t : Int), .string Xl, .string Xd] 32)
        have hRx := HR.out.alloc (.cells #[.int .i64 (f : Int), .int .i64 (t : Int), .string Xl, .string Xd] 32)
        have hsz2 : wr.heap.size < (wr.alloc (.cells #[.int .i64 (f : Int), .int .i64 (t : Int), .string Xl, .string Xd] 32)).heap.size := by rw [World.size_alloc]; omega
        generalize hwx : wr.alloc (.cells #[.int .i64 (f : Int), .int .i64 (t : Int), .string Xl, .string Xd] 32) = wx at *
        have HBX := Lib.hid (HB.out.trans (hbN.mono HB.out.size))
        have e0 := (hbN.cell (p := ⟨bb, k % own.length * 2, none⟩) (World.block_lt_of_cell? _ _ d0)).trans d0
        have e1 := (hbN.cell (p := ⟨bb, k % own.length * 2 + 1, none⟩) (World.block_lt_of_cell? _ _ d1)).trans d1
        obtain ⟨y0, y1, y2, y3⟩ := hC.cells
        have hbb : bb < w3.heap.size := by
          obtain ⟨p', cap', he, h⟩ := HOWN3.out
          obtain ⟨bb', hpb, hc⟩ := arow_at h (show k % own.length < own.length from Nat.mod_lt _ hown0)
          subst hpb
          injection he with he1 he2 he3
          injection he1 with he1
          injection he1 with he1
          rw [he1]
          exact World.block_lt_of_cell? _ _ (hc _ _ ha1).c0
        rw [← htn] at e0 e1
        clear htn
        have HKS := Lib.hid (fun (W : World) (h : ∀ p : Addr, p.block < wx.heap.size → u8.ownBlock ≠ some p.block → u9.ownBlock ≠ some p.block → W.cell? p = wx.cell? p) =>
          (show W.cell? ⟨wr.heap.size, 2, none⟩ = some (.string Xl) ∧ W.cell? ⟨wr.heap.size, 3, none⟩ = some (.string Xd) ∧ W.cell? ⟨bb, ((k : Int) % (own.length : Int)).toNat * 2, none⟩ = some (.string Ul) ∧ W.cell? ⟨bb, ((k : Int) % (own.length : Int)).toNat * 2 + 1, none⟩ = some (.string Ud) from by
            have q1 : u8.ownBlock ≠ some wr.heap.size := fun e => by have := (own_lt HR.out.fst _ e).1; omega
            have q2 : u9.ownBlock ≠ some wr.heap.size := fun e => by have := (own_lt HR.out.snd _ e).1; omega
            have q3 : u8.ownBlock ≠ some bb := fun e => by have := (own_lt HR.out.fst _ e).2; omega
            have q4 : u9.ownBlock ≠ some bb := fun e => by have := (own_lt HR.out.snd _ e).2; omega
            have q5 : bb < wx.heap.size := World.block_lt_of_cell? _ _ e0
            exact ⟨(h ⟨wr.heap.size, 2, none⟩ hsz2 q1 q2).trans y2, (h ⟨wr.heap.size, 3, none⟩ hsz2 q1 q2).trans y3, (h ⟨bb, ((k : Int) % (own.length : Int)).toNat * 2, none⟩ q5 q3 q4).trans e0, (h ⟨bb, ((k : Int) % (own.length : Int)).toNat * 2 + 1, none⟩ q5 q3 q4).trans e1⟩))
        have hS : wx.cell? ⟨wr.heap.size, 2, none⟩ = some (.string Xl) ∧ wx.cell? ⟨wr.heap.size, 3, none⟩ = some (.string Xd) ∧ wx.cell? ⟨bb, ((k : Int) % (own.length : Int)).toNat * 2, none⟩ = some (.string Ul) ∧ wx.cell? ⟨bb, ((k : Int) % (own.length : Int)).toNat * 2 + 1, none⟩ = some (.string Ud) := ⟨y2, y3, e0, e1⟩
        have hR := RegS.start hRx
        have HC1 := Lib.hid (show wx.heap.size + 1 = (wx.drew.alloc (.cells #[.string Xl, .string Xd] 30)).heap.size by rw [World.size_alloc]; rfl)
        have HC2 := Lib.hid (show wx.heap.size + 1 = (wx.drew.alloc (.cells #[.string Ul, .string Ud] 30)).heap.size by rw [World.size_alloc]; rfl)
        clear hC hbN hRx
        go_wp2_with fail
        clear c0 c1 c2 c3 d0 d1 ha1 ha2 hxk hc hc' hbb
        go_region_held3 (fun W => W.cell? ⟨wr.heap.size, 2, none⟩ = some (.string Xl) ∧ W.cell? ⟨wr.heap.size, 3, none⟩ = some (.string Xd) ∧ W.cell? ⟨bb, ((k : Int) % (own.length : Int)).toNat * 2, none⟩ = some (.string Ul) ∧ W.cell? ⟨bb, ((k : Int) % (own.length : Int)).toNat * 2 + 1, none⟩ = some (.string Ud))
          (first | exact hS | exact hS8 | exact HKS.out _ (hR.alloc (.cells #[.string Xl, .string Xd] 30)).kept | exact HKS.out _ (hR.alloc (.cells #[.string Ul, .string Ud] 30)).kept | exact HKS.out _ ((hR.alloc (.cells #[.string Xl, .string Xd] 30)).alloc (.cells #[.string Ul, .string Ud] 30)).kept | exact HKS.out _ ((hR.alloc (.cells #[.string Ul, .string Ud] 30)).alloc (.cells #[.string Xl, .string Xd] 30)).kept | go_keep)
          (first
            | ((with_reducible refine at_world ((wx.alloc (.cells #[.string Xl, .string Xd] 30)).drew) ?_); obtain ⟨g8, q8, w8, hrun8, hR8, hN8⟩ := RegS.app (RegS.same (hR.allocD (.cells #[.string Xl, .string Xd] 30))) (News.same (News.newD hR.rows Xl Xd _ rfl)) hk5; refine step_app rfl (.tmp 74) (.tmp 77) 48 rfl 48 rfl _ _ _ _ rfl rfl hrun8 ?_; have hS8 := HKS.out _ (RegS.same hR8).kept; clear hrun8 hN8; have hRn := RegS.same hR8; clear hR hR8; have hR := hRn; clear hRn)
            | ((with_reducible refine at_world (((wx.alloc (.cells #[.string Xl, .string Xd] 30)).alloc (.cells #[.string Ul, .string Ud] 30)).drew) ?_); obtain ⟨g8, q8, w8, hrun8, hR8, hN8⟩ := RegS.app (RegS.same ((hR.allocD (.cells #[.string Xl, .string Xd] 30)).allocD (.cells #[.string Ul, .string Ud] 30))) (News.same ((News.newD hR.rows Xl Xd _ rfl).allocD (.cells #[.string Ul, .string Ud] 30))) hk5; refine step_app rfl (.tmp 74) (.tmp 77) 48 rfl 48 rfl _ _ _ _ rfl rfl hrun8 ?_; have hS8 := HKS.out _ (RegS.same hR8).kept; have hNo := (hN8 _ _ _ (News.newD2 (hR.allocD (.cells #[.string Xl, .string Xd] 30)).rows Ul Ud)); clear hrun8 hN8; have hRn := RegS.same hR8; clear hR hR8; have hR := hRn; clear hRn)
            | ((with_reducible refine at_world (((wx.alloc (.cells #[.string Ul, .string Ud] 30)).alloc (.cells #[.string Xl, .string Xd] 30)).drew) ?_); obtain ⟨g8, q8, w8, hrun8, hR8, hN8⟩ := RegS.app (RegS.same ((hR.allocD (.cells #[.string Ul, .string Ud] 30)).allocD (.cells #[.string Xl, .string Xd] 30))) (News.same (News.newD2 (hR.allocD (.cells #[.string Ul, .string Ud] 30)).rows Xl Xd)) hk5; refine step_app rfl (.tmp 74) (.tmp 77) 48 rfl 48 rfl _ _ _ _ rfl rfl hrun8 ?_; have hS8 := HKS.out _ (RegS.same hR8).kept; have hNo := (hN8 _ _ _ ((News.newD hR.rows Ul Ud _ rfl).allocD (.cells #[.string Xl, .string Xd] 30))); clear hrun8 hN8; have hRn := RegS.same hR8; clear hR hR8; have hR := hRn; clear hRn)
            | ((with_reducible refine at_world (w8.alloc (.cells #[.string Xl, .string Xd] 30)) ?_); obtain ⟨g8, q8, w8, hrun8, hR8, hN8⟩ := RegS.app (RegS.same (hR.alloc (.cells #[.string Xl, .string Xd] 30))) (News.same (News.new hR.rows Xl Xd _ rfl)) hk5; refine step_app rfl (.tmp 74) (.tmp 77) 48 rfl 48 rfl _ _ _ _ rfl rfl hrun8 ?_; have hS8 := HKS.out _ (RegS.same hR8).kept; clear hrun8 hN8; have hRn := RegS.same hR8; clear hR hR8; have hR := hRn; clear hRn)
            | ((with_reducible refine at_world (w8) ?_); obtain ⟨g8, q8, w8, hrun8, hR8, hN8⟩ := RegS.app (RegS.same (hR)) (News.same (hNo)) hk5; refine step_app rfl (.tmp 74) (.tmp 77) 48 rfl 48 rfl _ _ _ _ rfl rfl hrun8 ?_; have hS8 := HKS.out _ (RegS.same hR8).kept; clear hrun8 hN8; have hRn := RegS.same hR8; clear hR hR8; have hR := hRn; clear hRn)
            | ((with_reducible refine at_world ((wx.alloc (.cells #[.string Ul, .string Ud] 30)).drew) ?_); obtain ⟨g8, q8, w8, hrun8, hR8, hN8⟩ := RegS.app (RegS.symm (hR.allocD (.cells #[.string Ul, .string Ud] 30))) (News.symm (News.newD hR.rows Ul Ud _ rfl)) hk5; refine step_app rfl (.tmp 79) (.tmp 87) 48 rfl 48 rfl _ _ _ _ rfl rfl hrun8 ?_; have hS8 := HKS.out _ (RegS.symm hR8).kept; clear hrun8 hN8; have hRn := RegS.symm hR8; clear hR hR8; have hR := hRn; clear hRn)
            | ((with_reducible refine at_world (((wx.alloc (.cells #[.string Ul, .string Ud] 30)).alloc (.cells #[.string Xl, .string Xd] 30)).drew) ?_); obtain ⟨g8, q8, w8, hrun8, hR8, hN8⟩ := RegS.app (RegS.symm ((hR.allocD (.cells #[.string Ul, .string Ud] 30)).allocD (.cells #[.string Xl, .string Xd] 30))) (News.symm ((News.newD hR.rows Ul Ud _ rfl).allocD (.cells #[.string Xl, .string Xd] 30))) hk5; refine step_app rfl (.tmp 79) (.tmp 87) 48 rfl 48 rfl _ _ _ _ rfl rfl hrun8 ?_; have hS8 := HKS.out _ (RegS.symm hR8).kept; have hNo := (hN8 _ _ _ (News.newD2 (hR.allocD (.cells #[.string Ul, .string Ud] 30)).rows Xl Xd).symm).symm; clear hrun8 hN8; have hRn := RegS.symm hR8; clear hR hR8; have hR := hRn; clear hRn)
            | ((with_reducible refine at_world (((wx.alloc (.cells #[.string Xl, .string Xd] 30)).alloc (.cells #[.string Ul, .string Ud] 30)).drew) ?_); obtain ⟨g8, q8, w8, hrun8, hR8, hN8⟩ := RegS.app (RegS.symm ((hR.allocD (.cells #[.string Xl, .string Xd] 30)).allocD (.cells #[.string Ul, .string Ud] 30))) (News.symm (News.newD2 (hR.allocD (.cells #[.string Xl, .string Xd] 30)).rows Ul Ud)) hk5; refine step_app rfl (.tmp 79) (.tmp 87) 48 rfl 48 rfl _ _ _ _ rfl rfl hrun8 ?_; have hS8 := HKS.out _ (RegS.symm hR8).kept; have hNo := (hN8 _ _ _ ((News.newD hR.rows Xl Xd _ rfl).allocD (.cells #[.string Ul, .string Ud] 30)).symm).symm; clear hrun8 hN8; have hRn := RegS.symm hR8; clear hR hR8; have hR := hRn; clear hRn)
            | ((with_reducible refine at_world (w8.alloc (.cells #[.string Ul, .string Ud] 30)) ?_); obtain ⟨g8, q8, w8, hrun8, hR8, hN8⟩ := RegS.app (RegS.symm (hR.alloc (.cells #[.string Ul, .string Ud] 30))) (News.symm (News.new hR.rows Ul Ud _ rfl)) hk5; refine step_app rfl (.tmp 79) (.tmp 87) 48 rfl 48 rfl _ _ _ _ rfl rfl hrun8 ?_; have hS8 := HKS.out _ (RegS.symm hR8).kept; clear hrun8 hN8; have hRn := RegS.symm hR8; clear hR hR8; have hR := hRn; clear hRn)
            | ((with_reducible refine at_world (w8) ?_); obtain ⟨g8, q8, w8, hrun8, hR8, hN8⟩ := RegS.app (RegS.symm (hR)) (News.symm (hNo)) hk5; refine step_app rfl (.tmp 79) (.tmp 87) 48 rfl 48 rfl _ _ _ _ rfl rfl hrun8 ?_; have hS8 := HKS.out _ (RegS.symm hR8).kept; clear hrun8 hN8; have hRn := RegS.symm hR8; clear hR hR8; have hR := hRn; clear hRn))
        all_goals
          have HRF := Lib.hid hR.rows
          have HBF := Lib.hid (HBX.out.trans hR.below)
          go_wp2_with fail
          go_roundg (sp.length - (k + 1))
          case rel =>
            refine ⟨k + 1, _, _, by go_num, rfl, rfl, by omega, rfl, ?_, HBF.out⟩
            rw [HA8.out, HA9.out]
            exact HRF.out
          case measure => have := HG.out; omega
      · obtain rfl : k = sp.length := by omega
        have hge : ¬ ((sp.length : Nat) : Int) < ((sp.length : Nat) : Int) := by omega
        have hST := HR.out.fst
        have hPU := HR.out.snd
        rw [List.take_of_length_le (by simp)] at hST
        rw [List.take_of_length_le (by rw [putOf_len]; exact Nat.le_refl _)] at hPU
        have HSTR := Lib.hid (show ARow wr u8 (sp.map fun x => x.2.2) from ARow.of (by rw [List.length_map]; exact hST))
        have HPUR := Lib.hid (show ARow wr u9 (putOf own sp.length) from ARow.of (by rw [putOf_len]; exact hPU))
        have HPUM := Lib.hid (fun a (h : a ∈ putOf own sp.length) => HMD.out a (putOf_mem hown0 h))
        have HGD := Lib.hid (findL_good S.data.toList)
        have hsl : S.data.toList.length = S.size := size_list S
        have HSLEN := Lib.hid (show ∀ x ∈ sp, x.2.2.1.length ≤ 500 ∧ x.2.2.2.length ≤ 500 from fun x hx => by
          have hgd := HGD.out
          rw [HSP.out] at hgd
          rw [(hgd.each x hx).rd]
          have q1 := parse_len (slc S.data.toList x.1 x.2.1)
          have q2 := slc_len S.data.toList x.1 x.2.1
          simp only
          omega)
        have HP1 := Lib.hid (Put_any S (by omega) (sp.map fun x => x.2.2) u8 wr HSTR.out (by rw [List.length_map]; omega) (fun a ha => by
          obtain ⟨x, hx, rfl⟩ := List.mem_map.1 ha
          have := HSLEN.out x hx
          omega) (HE3.out.below HB.out))
        rw [stay_law HSP.out] at HP1
        simp only at HP1
        rw [ba_back] at HP1
        obtain ⟨t, other, hput, hfind, holen, hK, hdrop, hle1, hle2⟩ := moves_law HSP.out (putOf own sp.length) (putOf_len _ _) (fun a ha => (HPUM.out a ha).1)
        have htl : t.length ≤ 67252 := by
          have h1 := putL_len S.data.toList (putOf own sp.length) 43 (fun a ha => by
            have h1 := text_len_le a
            have h2 := (HPUM.out a ha).2.1
            have h3 := (HPUM.out a ha).2.2
            omega)
          rw [hput] at h1
          simp only at h1
          omega
        have HP2 := Lib.hid (fun W (hb : Below wr.heap.size wr W) => Put_any S (by omega) (putOf own sp.length) u9 W (HPUR.out.below hb) (by rw [putOf_len]; omega) (fun a ha => by
          have h1 := (HPUM.out a ha).2.1
          have h2 := (HPUM.out a ha).2.2
          omega) (HE3.out.below (HB.out.trans (hb.mono HB.out.size))))
        rw [hput] at HP2
        simp only at HP2
        have HF2 := Lib.hid (fun W (hE : Env W) => Find_row ⟨t.toArray⟩ (by show t.length ≤ _; omega) W hE)
        rw [show (⟨t.toArray⟩ : ByteArray).data.toList = t from rfl, hfind] at HF2
        simp only at HF2
        have HOLEN := Lib.hid (show ∀ y ∈ other, y.2.2.1.length ≤ 67252 ∧ y.2.2.2.length ≤ 67252 from fun x hx => by
          have hgd := findL_good t
          rw [hfind] at hgd
          rw [(hgd.each x hx).rd]
          have q1 := parse_len (slc t x.1 x.2.1)
          have q2 := slc_len t x.1 x.2.1
          simp only
          omega)
        have HK := Lib.hid hK
        have HDR := Lib.hid hdrop
        have HL := Lib.hid holen
        have HLE := Lib.hid (And.intro hle1 hle2)
        have hol2 : ((other.length : Int) != (sp.length : Int)) = false := by rw [bne_eq_false_iff_eq]; omega
        have hTs : (⟨t.toArray⟩ : ByteArray).size = t.length := rfl
        have hTd : (⟨t.toArray⟩ : ByteArray).data.toList = t := rfl
        generalize (⟨t.toArray⟩ : ByteArray) = T at HP2 HF2 hTs hTd
        have HT := Lib.hid (And.intro hTs hTd)
        have HB0 := Lib.hid (HB3.out.trans (HB.out.mono HB3.out.size))
        have HE4 := Lib.hid (HE3.out.below HB.out)
        clear hput hfind hK hdrop hle1 hle2 hST hPU hsl hTs hTd HGD HR HSTR
        have hpl := putOf_len own sp.length
        generalize putOf own sp.length = PU at HPUR HPUM hpl HP2 HK
        have HPL := Lib.hid hpl
        have HOL2 := Lib.hid hol2
        have HSS := Lib.hid hS
        have HL64 := Lib.hid hlen
        clear hlt hk hge hlen hpn hpl hol2 holen htl hS hown0
        obtain ⟨p9, c9, rfl, -⟩ := HPUR.out
        go_wp2_with fail
        refine HP1.out.mono ?_
        rintro e w5 ⟨rfl, hb5⟩
        have HB5 := Lib.hid hb5
        clear hb5 HP1
        go_wp2_with fail
        refine (HP2.out _ HB5.out).mono ?_
        rintro e w6 ⟨rfl, hb6⟩
        have HB6 := Lib.hid (HB5.out.trans (hb6.mono HB5.out.size))
        clear hb6 HP2
        go_wp2_with fail
        refine (HF2.out _ (HE4.out.below HB6.out)).mono ?_
        rintro e w7 ⟨v16, rfl, hsr, hb7⟩
        have HB7 := Lib.hid (HB6.out.trans (hb7.mono HB6.out.size))
        have HOR := Lib.hid hsr
        obtain ⟨p16, c16, rfl, -⟩ := hsr
        have HPU7 := Lib.hid (HPUR.out.below HB7.out)
        have HSR7 := Lib.hid ((HSR.out.below HB.out).below HB7.out)
        have HE7 := Lib.hid (HE4.out.below HB7.out)
        have HA7 := Lib.hid (HB0.out.trans (HB7.out.mono HB0.out.size))
        clear hb7 HF2 HPUR HB6 HB5
        have hol2 := HOL2.out
        go_wp2_with fail
        clear hol2
        go_loopg [18, 19, 131] sp.length (fun g v18 v19 v131 W => MvRel sp other w7 g v18 v19 v131 W)
        case atStart => exact ⟨0, rfl, rfl, rfl, Nat.zero_le _, rfl, Below.refl _ _⟩
        case round =>
          obtain ⟨k, rfl, rfl, rfl, hk, hg, hb⟩ := hrel
          have HG := Lib.hid hg
          have HB8 := Lib.hid hb
          clear hg hb
          by_cases hlt : k < sp.length
          · have hk0 : (0 : Int) ≤ (k : Int) := by omega
            have hk1 : (k : Int) < (sp.length : Int) := by omega
            have hwk : IntKind.i64.wrap ((k : Int) + 1) = (k : Int) + 1 := by have := HL64.out; rw [IntKind.wrap_i64]; omega
            have hlo : k < other.length := by have := HL.out; omega
            have hlp : k < PU.length := by have := HPL.out; omega
            have hS := HSS.out
            obtain ⟨p', cap', he, h⟩ := HSR7.out.below HB8.out
            obtain rfl : c6 = cap' := by injection he
            obtain rfl : p6 = p' := by injection he
            obtain ⟨ba, hpb, hc⟩ := srow_at h hlt
            subst hpb
            clear he h
            obtain ⟨p', cap', he, h⟩ := HOR.out.below HB8.out
            obtain rfl : c16 = cap' := by injection he
            obtain rfl : p16 = p' := by injection he
            obtain ⟨bo, hpb, hc'⟩ := srow_at h hlo
            subst hpb
            clear he h
            obtain ⟨p', cap', he, h⟩ := HPU7.out.below HB8.out
            obtain rfl : c9 = cap' := by injection he
            obtain rfl : p9 = p' := by injection he
            obtain ⟨bp, hpb, hc''⟩ := arow_at h hlp
            subst hpb
            clear he h
            have K := HK.out k _ _ _ (List.getElem?_eq_getElem hlt) (List.getElem?_eq_getElem hlo) (List.getElem?_eq_getElem hlp)
            have HX1 := Lib.hid (endOf_succ (List.getElem?_eq_getElem hlt))
            have HX2 := Lib.hid (endOf_succ (List.getElem?_eq_getElem hlo))
            obtain ⟨c0, c1, c2, c3⟩ := hc k _ (List.getElem?_eq_getElem hlt)
            obtain ⟨o0, o1, o2, o3⟩ := hc' k _ (List.getElem?_eq_getElem hlo)
            have had := hc'' k _ (List.getElem?_eq_getElem hlp)
            have hx5 := HSLEN.out _ (List.getElem_mem hlt)
            have hy5 := HOLEN.out _ (List.getElem_mem hlo)
            have ha5 := (HPUM.out _ (List.getElem_mem hlp)).2
            generalize sp[k] = x at *
            generalize other[k] = y at *
            generalize PU[k] = a at *
            obtain ⟨f, tt, lo, dm⟩ := x
            obtain ⟨f2, t2, lo2, dm2⟩ := y
            obtain ⟨al, ad⟩ := a
            obtain ⟨d0, d1⟩ := had
            obtain ⟨q1, q2, q3, q4, q5, q6, btw, adr, par, sam⟩ := K
            obtain ⟨hTs, hTd⟩ := HT.out
            have hsl : S.data.toList.length = S.size := size_list S
            simp only at c0 c1 c2 c3 o0 o1 o2 o3 d0 d1 q1 q2 q3 q4 q5 q6 btw adr par sam hx5 hy5 ha5 HX1 HX2
            rw [hsl] at q3
            rw [← hTs] at q6
            generalize endOf sp k = A0 at *
            generalize endOf other k = B0 at *
            have s1 : (S.extract A0 f).data.toList = slc S.data.toList A0 f := ext_list S A0 f (by omega)
            have s2 : (T.extract B0 f2).data.toList = slc t B0 f2 := by rw [ext_list T B0 f2 (by omega), hTd]
            have s3 : (S.extract f tt).data.toList = slc S.data.toList f tt := ext_list S f tt (by omega)
            have s4 : (T.extract f2 t2).data.toList = slc t f2 t2 := by rw [ext_list T f2 t2 (by omega), hTd]
            have hz1 : S.extract A0 f = T.extract B0 f2 := ba_eq (by rw [s1, s2, btw])
            have hsz3 : (S.extract f tt).size ≤ 500 := by rw [ByteArray.size_extract]; omega
            have HPA := Lib.hid (fun W (hE : Env W) => Parse_any (S.extract f tt) (by omega) W hE)
            rw [s3, par] at HPA
            simp only [parV, addrV] at HPA
            obtain ⟨bs, hbs⟩ : ∃ bs, bs = decide (ordL (normL (lo, dm)) (normL (al, ad)) = 0) := ⟨_, rfl⟩
            have HSA := Lib.hid (show bs = true → T.extract f2 t2 = S.extract f tt from fun h => ba_eq (by rw [s3, s4, sam (by rw [hbs] at h; simpa using h)]))
            have HS1 := Lib.hid (fun W => SameA_any ⟨lo2.toArray⟩ ⟨dm2.toArray⟩ ⟨al.toArray⟩ ⟨ad.toArray⟩ (by show lo2.length ≤ _; omega) (by show dm2.length ≤ _; omega) (by show al.length ≤ _; omega) (by show ad.length ≤ _; omega) W)
            have HS2 := Lib.hid (fun W => SameA_any ⟨lo.toArray⟩ ⟨dm.toArray⟩ ⟨al.toArray⟩ ⟨ad.toArray⟩ (by show lo.length ≤ _; omega) (by show dm.length ≤ _; omega) (by show al.length ≤ _; omega) (by show ad.length ≤ _; omega) W)
            have hd1 : decide (ordS ⟨lo2.toArray⟩ ⟨dm2.toArray⟩ ⟨al.toArray⟩ ⟨ad.toArray⟩ = 0) = true := decide_eq_true adr
            have hd2 : decide (ordS ⟨lo.toArray⟩ ⟨dm.toArray⟩ ⟨al.toArray⟩ ⟨ad.toArray⟩ = 0) = bs := hbs.symm
            rw [hd1] at HS1
            rw [hd2] at HS2
            clear hd1 hd2 hbs adr par sam btw s1 s2 s3 s4 hTs hTd hsl hx5 hy5 ha5 hc hc' hc'' hsz3
            generalize (⟨lo.toArray⟩ : ByteArray) = Xl at *
            generalize (⟨dm.toArray⟩ : ByteArray) = Xd at *
            generalize (⟨lo2.toArray⟩ : ByteArray) = Yl at *
            generalize (⟨dm2.toArray⟩ : ByteArray) = Yd at *
            generalize (⟨al.toArray⟩ : ByteArray) = Ul at *
            generalize (⟨ad.toArray⟩ : ByteArray) = Ud at *
            generalize hZ : T.extract B0 f2 = Z at *
            generalize hP : S.extract f tt = P at *
            have i0 : (0 : Int) ≤ (A0 : Int) := by omega
            have i1 : (A0 : Int) ≤ (f : Int) := by omega
            have i2 : (f : Int) ≤ (tt : Int) := by omega
            have i3 : (tt : Int) ≤ (S.size : Int) := by omega
            have i4 : (f : Int) ≤ (S.size : Int) := by omega
            have i5 : (0 : Int) ≤ (B0 : Int) := by omega
            have i6 : (B0 : Int) ≤ (f2 : Int) := by omega
            have i7 : (f2 : Int) ≤ (t2 : Int) := by omega
            have i8 : (t2 : Int) ≤ (T.size : Int) := by omega
            have i9 : (f2 : Int) ≤ (T.size : Int) := by omega
            have ia : (0 : Int) ≤ (f : Int) := by omega
            have ib : (0 : Int) ≤ (f2 : Int) := by omega
            have n0 : ¬ f < A0 := by omega
            have n1 : ¬ tt ≤ f := by omega
            have n2 : ¬ S.size < tt := by omega
            have n3 : ¬ f2 < B0 := by omega
            have n4 : ¬ T.size < t2 := by omega
            have m0 : decide ((f : Int) < (A0 : Int)) = false := by rw [decide_eq_false_iff_not]; omega
            have m1 : decide ((tt : Int) ≤ (f : Int)) = false := by rw [decide_eq_false_iff_not]; omega
            have m2 : decide ((S.size : Int) < (tt : Int)) = false := by rw [decide_eq_false_iff_not]; omega
            have m3 : decide ((f2 : Int) < (B0 : Int)) = false := by rw [decide_eq_false_iff_not]; omega
            have m4 : decide ((T.size : Int) < (t2 : Int)) = false := by rw [decide_eq_false_iff_not]; omega
            clear q1 q2 q3 q4 q5 q6
            have hCx := SpBlk.made wr (f : Int) (tt : Int) Xl Xd
            have hbx := alloc_below wr (.cells #[.int .i64 (f : Int), .int .i64 (tt : Int), .string Xl, .string Xd] 32)
            generalize hwx : wr.alloc (.cells #[.int .i64 (f : Int), .int .i64 (tt : Int), .string Xl, .string Xd] 32) = wx at *
            have lo0 := World.block_lt_of_cell? _ _ o0
            have lp0 := World.block_lt_of_cell? _ _ d0
            have u0 := (hbx.cell (p := ⟨bo, k * 4, none⟩) lo0).trans o0
            have u1 := (hbx.cell (p := ⟨bo, k * 4 + 1, none⟩) lo0).trans o1
            have u2 := (hbx.cell (p := ⟨bo, k * 4 + 2, none⟩) lo0).trans o2
            have u3 := (hbx.cell (p := ⟨bo, k * 4 + 3, none⟩) lo0).trans o3
            have hCy := SpBlk.made wx (f2 : Int) (t2 : Int) Yl Yd
            have hby := alloc_below wx (.cells #[.int .i64 (f2 : Int), .int .i64 (t2 : Int), .string Yl, .string Yd] 32)
            generalize hwy : wx.alloc (.cells #[.int .i64 (f2 : Int), .int .i64 (t2 : Int), .string Yl, .string Yd] 32) = wy at *
            have hbxy := hbx.trans (hby.mono hbx.size)
            have e0 := (hbxy.cell (p := ⟨bp, k * 2, none⟩) lp0).trans d0
            have e1 := (hbxy.cell (p := ⟨bp, k * 2 + 1, none⟩) lp0).trans d1
            obtain ⟨x0, x1, x2, x3⟩ := (hCx.below hby).cells
            obtain ⟨y0, y1, y2, y3⟩ := hCy.cells
            have HY := Lib.hid (HB8.out.trans (hbxy.mono HB8.out.size))
            have lx := World.block_lt_of_cell? _ _ x0
            have ly := World.block_lt_of_cell? _ _ y0
            have lp := World.block_lt_of_cell? _ _ e0
            have HKS := Lib.hid (fun (W : World) (hb : Below wy.heap.size wy W) => (show W.cell? ⟨wr.heap.size, 0, none⟩ = some (.int .i64 f) ∧ W.cell? ⟨wr.heap.size, 1, none⟩ = some (.int .i64 tt) ∧ W.cell? ⟨wr.heap.size, 2, none⟩ = some (.string Xl) ∧ W.cell? ⟨wr.heap.size, 3, none⟩ = some (.string Xd) ∧ W.cell? ⟨wx.heap.size, 0, none⟩ = some (.int .i64 f2) ∧ W.cell? ⟨wx.heap.size, 1, none⟩ = some (.int .i64 t2) ∧ W.cell? ⟨wx.heap.size, 2, none⟩ = some (.string Yl) ∧ W.cell? ⟨wx.heap.size, 3, none⟩ = some (.string Yd) ∧ W.cell? ⟨bp, k * 2, none⟩ = some (.string Ul) ∧ W.cell? ⟨bp, k * 2 + 1, none⟩ = some (.string Ud) from ⟨(hb.cell (p := ⟨wr.heap.size, 0, none⟩) lx).trans x0, (hb.cell (p := ⟨wr.heap.size, 1, none⟩) lx).trans x1, (hb.cell (p := ⟨wr.heap.size, 2, none⟩) lx).trans x2, (hb.cell (p := ⟨wr.heap.size, 3, none⟩) lx).trans x3, (hb.cell (p := ⟨wx.heap.size, 0, none⟩) ly).trans y0, (hb.cell (p := ⟨wx.heap.size, 1, none⟩) ly).trans y1, (hb.cell (p := ⟨wx.heap.size, 2, none⟩) ly).trans y2, (hb.cell (p := ⟨wx.heap.size, 3, none⟩) ly).trans y3, (hb.cell (p := ⟨bp, k * 2, none⟩) lp).trans e0, (hb.cell (p := ⟨bp, k * 2 + 1, none⟩) lp).trans e1⟩))
            have hS := HKS.out _ (drew_below wy)
            have hbd := drew_below wy
            clear hbx hby hbxy hCx hCy lx ly lp lo0 lp0
            go_wp2_with fail
            clear c0 c1 c2 c3 o0 o1 o2 o3 d0 d1 u0 u1 u2 u3
            go_region_held3 (fun W => W.cell? ⟨wr.heap.size, 0, none⟩ = some (.int .i64 f) ∧ W.cell? ⟨wr.heap.size, 1, none⟩ = some (.int .i64 tt) ∧ W.cell? ⟨wr.heap.size, 2, none⟩ = some (.string Xl) ∧ W.cell? ⟨wr.heap.size, 3, none⟩ = some (.string Xd) ∧ W.cell? ⟨wx.heap.size, 0, none⟩ = some (.int .i64 f2) ∧ W.cell? ⟨wx.heap.size, 1, none⟩ = some (.int .i64 t2) ∧ W.cell? ⟨wx.heap.size, 2, none⟩ = some (.string Yl) ∧ W.cell? ⟨wx.heap.size, 3, none⟩ = some (.string Yd) ∧ W.cell? ⟨bp, k * 2, none⟩ = some (.string Ul) ∧ W.cell? ⟨bp, k * 2 + 1, none⟩ = some (.string Ud))
              (first | exact hS | exact hS7 | go_keep)
              (first | ((with_reducible refine (HS1.out _).mono ?_); rintro e w8 ⟨rfl, hb8⟩; have hbd8 := hbd.trans (hb8.mono hbd.size); clear hbd hb8; have hbd := hbd8; clear hbd8; have hS7 := HKS.out _ hbd))
            have HB9 := Lib.hid (HY.out.trans (hbd.mono HY.out.size))
            obtain ⟨z0, z1, z2, z3, z4, z5, z6, z7, z8, z9⟩ := HKS.out _ hbd
            clear hS hS7 hbd x0 x1 x2 x3 y0 y1 y2 y3 e0 e1
            go_wp2_with fail
            refine (HPA.out _ (HE7.out.below HB9.out)).mono ?_
            rintro e w9 ⟨rfl, hb9⟩
            have hCb := Two.made w9 (.string Xl) (.string Xd) 30
            have hbb := alloc_below w9 (.cells #[.string Xl, .string Xd] 30)
            generalize hwb : w9.alloc (.cells #[.string Xl, .string Xd] 30) = wb at *
            have hbk := hb9.trans (hbb.mono hb9.size)
            have HB10 := Lib.hid (HB9.out.trans (hbk.mono HB9.out.size))
            have lx := World.block_lt_of_cell? _ _ z0
            have ly := World.block_lt_of_cell? _ _ z4
            have lp := World.block_lt_of_cell? _ _ z8
            obtain ⟨v0, v1, v2, v3, v4, v5, v6, v7, v8, v9⟩ : wb.cell? ⟨wr.heap.size, 0, none⟩ = some (.int .i64 f) ∧ wb.cell? ⟨wr.heap.size, 1, none⟩ = some (.int .i64 tt) ∧ wb.cell? ⟨wr.heap.size, 2, none⟩ = some (.string Xl) ∧ wb.cell? ⟨wr.heap.size, 3, none⟩ = some (.string Xd) ∧ wb.cell? ⟨wx.heap.size, 0, none⟩ = some (.int .i64 f2) ∧ wb.cell? ⟨wx.heap.size, 1, none⟩ = some (.int .i64 t2) ∧ wb.cell? ⟨wx.heap.size, 2, none⟩ = some (.string Yl) ∧ wb.cell? ⟨wx.heap.size, 3, none⟩ = some (.string Yd) ∧ wb.cell? ⟨bp, k * 2, none⟩ = some (.string Ul) ∧ wb.cell? ⟨bp, k * 2 + 1, none⟩ = some (.string Ud) := ⟨(hbk.cell (p := ⟨wr.heap.size, 0, none⟩) lx).trans z0, (hbk.cell (p := ⟨wr.heap.size, 1, none⟩) lx).trans z1, (hbk.cell (p := ⟨wr.heap.size, 2, none⟩) lx).trans z2, (hbk.cell (p := ⟨wr.heap.size, 3, none⟩) lx).trans z3, (hbk.cell (p := ⟨wx.heap.size, 0, none⟩) ly).trans z4, (hbk.cell (p := ⟨wx.heap.size, 1, none⟩) ly).trans z5, (hbk.cell (p := ⟨wx.heap.size, 2, none⟩) ly).trans z6, (hbk.cell (p := ⟨wx.heap.size, 3, none⟩) ly).trans z7, (hbk.cell (p := ⟨bp, k * 2, none⟩) lp).trans z8, (hbk.cell (p := ⟨bp, k * 2 + 1, none⟩) lp).trans z9⟩
            obtain ⟨-, g0, g1, fz0, fz1⟩ := hCb
            have lx2 := World.block_lt_of_cell? _ _ v0
            have ly2 := World.block_lt_of_cell? _ _ v4
            have lp2 := World.block_lt_of_cell? _ _ v8
            have lb2 := World.block_lt_of_cell? _ _ g0
            have HKS2 := Lib.hid (fun (W : World) (hb : Below wb.heap.size wb W) => (show W.cell? ⟨wr.heap.size, 0, none⟩ = some (.int .i64 f) ∧ W.cell? ⟨wr.heap.size, 1, none⟩ = some (.int .i64 tt) ∧ W.cell? ⟨wr.heap.size, 2, none⟩ = some (.string Xl) ∧ W.cell? ⟨wr.heap.size, 3, none⟩ = some (.string Xd) ∧ W.cell? ⟨wx.heap.size, 0, none⟩ = some (.int .i64 f2) ∧ W.cell? ⟨wx.heap.size, 1, none⟩ = some (.int .i64 t2) ∧ W.cell? ⟨wx.heap.size, 2, none⟩ = some (.string Yl) ∧ W.cell? ⟨wx.heap.size, 3, none⟩ = some (.string Yd) ∧ W.cell? ⟨bp, k * 2, none⟩ = some (.string Ul) ∧ W.cell? ⟨bp, k * 2 + 1, none⟩ = some (.string Ud) ∧ W.cell? ⟨w9.heap.size, 0, none⟩ = some (.string Xl) ∧ W.cell? ⟨w9.heap.size, 1, none⟩ = some (.string Xd) from ⟨(hb.cell (p := ⟨wr.heap.size, 0, none⟩) lx2).trans v0, (hb.cell (p := ⟨wr.heap.size, 1, none⟩) lx2).trans v1, (hb.cell (p := ⟨wr.heap.size, 2, none⟩) lx2).trans v2, (hb.cell (p := ⟨wr.heap.size, 3, none⟩) lx2).trans v3, (hb.cell (p := ⟨wx.heap.size, 0, none⟩) ly2).trans v4, (hb.cell (p := ⟨wx.heap.size, 1, none⟩) ly2).trans v5, (hb.cell (p := ⟨wx.heap.size, 2, none⟩) ly2).trans v6, (hb.cell (p := ⟨wx.heap.size, 3, none⟩) ly2).trans v7, (hb.cell (p := ⟨bp, k * 2, none⟩) lp2).trans v8, (hb.cell (p := ⟨bp, k * 2 + 1, none⟩) lp2).trans v9, (hb.cell (p := ⟨w9.heap.size, 0, none⟩) lb2).trans g0, (hb.cell (p := ⟨w9.heap.size, 1, none⟩) lb2).trans g1⟩))
            have hS := HKS2.out _ (drew_below wb)
            have hbd := drew_below wb
            clear hb9 hbb hbk lx ly lp lx2 ly2 lp2 lb2 HKS z0 z1 z2 z3 z4 z5 z6 z7 z8 z9
            go_wp2_with fail
            cases bs with
            | true =>
              have hst := HSA.out rfl
              go_region_held3 (fun W => W.cell? ⟨wr.heap.size, 0, none⟩ = some (.int .i64 f) ∧ W.cell? ⟨wr.heap.size, 1, none⟩ = some (.int .i64 tt) ∧ W.cell? ⟨wr.heap.size, 2, none⟩ = some (.string Xl) ∧ W.cell? ⟨wr.heap.size, 3, none⟩ = some (.string Xd) ∧ W.cell? ⟨wx.heap.size, 0, none⟩ = some (.int .i64 f2) ∧ W.cell? ⟨wx.heap.size, 1, none⟩ = some (.int .i64 t2) ∧ W.cell? ⟨wx.heap.size, 2, none⟩ = some (.string Yl) ∧ W.cell? ⟨wx.heap.size, 3, none⟩ = some (.string Yd) ∧ W.cell? ⟨bp, k * 2, none⟩ = some (.string Ul) ∧ W.cell? ⟨bp, k * 2 + 1, none⟩ = some (.string Ud) ∧ W.cell? ⟨w9.heap.size, 0, none⟩ = some (.string Xl) ∧ W.cell? ⟨w9.heap.size, 1, none⟩ = some (.string Xd))
                (first | exact hS | exact hS7 | go_keep)
                (first | ((with_reducible refine (HS2.out _).mono ?_); rintro e w8 ⟨rfl, hb8⟩; have hbd8 := hbd.trans (hb8.mono hbd.size); clear hbd hb8; have hbd := hbd8; clear hbd8; have hS7 := HKS2.out _ hbd))
              have HB11 := Lib.hid (HB10.out.trans (hbd.mono HB10.out.size))
              obtain ⟨r0, r1, r2, r3, r4, r5, r6, r7, r8, r9, r10, r11⟩ := HKS2.out _ hbd
              clear hS hS7 hbd hst
              go_wp2_with fail
              go_quiet (fail)
              go_wp2_with fail
              go_roundg (sp.length - (k + 1))
              case rel =>
                exact ⟨k + 1, by go_num, by rw [HX1.out], by rw [HX2.out], by omega, rfl, HB11.out.trans ⟨rfl, rfl, rfl, Nat.le_refl _, fun _ _ => rfl⟩⟩
              case measure => have := HG.out; omega
            | false =>
              refine wp_region_marked (S := (fun W => W.cell? ⟨wr.heap.size, 0, none⟩ = some (.int .i64 f) ∧ W.cell? ⟨wr.heap.size, 1, none⟩ = some (.int .i64 tt) ∧ W.cell? ⟨wr.heap.size, 2, none⟩ = some (.string Xl) ∧ W.cell? ⟨wr.heap.size, 3, none⟩ = some (.string Xd) ∧ W.cell? ⟨wx.heap.size, 0, none⟩ = some (.int .i64 f2) ∧ W.cell? ⟨wx.heap.size, 1, none⟩ = some (.int .i64 t2) ∧ W.cell? ⟨wx.heap.size, 2, none⟩ = some (.string Yl) ∧ W.cell? ⟨wx.heap.size, 3, none⟩ = some (.string Yd) ∧ W.cell? ⟨bp, k * 2, none⟩ = some (.string Ul) ∧ W.cell? ⟨bp, k * 2 + 1, none⟩ = some (.string Ud) ∧ W.cell? ⟨w9.heap.size, 0, none⟩ = some (.string Xl) ∧ W.cell? ⟨w9.heap.size, 1, none⟩ = some (.string Xd))) 31 (by kernel_rfl) hS (fun hHeld => ?_)
              refine wpAnyM_take (i := 0) (oi := _) (v := .int .i64 0) rfl (by kernel_rfl) (by kernel_rfl) (by kernel_rfl) (fun _ _ _ h => h) (by kernel_rfl) (by kernel_rfl) (Or.inl ⟨by kernel_rfl, ?_⟩) (by assumption) ?_
              · (intro w hSw; (try dsimp only at hSw); go_simp)
              try simp only [List.getElem_toArray, List.getElem_cons_zero, List.getElem_cons_succ, Act.put, List.setIfInBounds_toArray, List.set_cons_zero, List.set_cons_succ]
              refine wpAnyM_take (i := 1) (oi := _) (v := .bool false) rfl (by kernel_rfl) (by kernel_rfl) (by kernel_rfl) (fun _ _ _ h => h) (by kernel_rfl) (by kernel_rfl) (Or.inl ⟨by kernel_rfl, ?_⟩) (by assumption) ?_
              · (intro w hSw; (try dsimp only at hSw); go_simp)
              try simp only [List.getElem_toArray, List.getElem_cons_zero, List.getElem_cons_succ, Act.put, List.setIfInBounds_toArray, List.set_cons_zero, List.set_cons_succ]
              refine wpAnyM_take (i := 2) (oi := _) (v := .bool false) rfl (by kernel_rfl) (by kernel_rfl) (by kernel_rfl) (fun _ _ _ h => h) (by kernel_rfl) (by kernel_rfl) (Or.inl ⟨by kernel_rfl, ?_⟩) (by assumption) ?_
              · (intro w hSw; (try dsimp only at hSw); go_simp)
              try simp only [List.getElem_toArray, List.getElem_cons_zero, List.getElem_cons_succ, Act.put, List.setIfInBounds_toArray, List.set_cons_zero, List.set_cons_succ]
              refine wpAnyM_take (i := 3) (oi := _) (v := .agg #[.string Xl, .string Xd]) rfl (by kernel_rfl) (by kernel_rfl) (by kernel_rfl) (fun _ _ _ h => h) (by kernel_rfl) (by kernel_rfl) (Or.inl ⟨by kernel_rfl, ?_⟩) (by assumption) ?_
              · (intro w hSw; (try dsimp only at hSw); go_simp)
              try simp only [List.getElem_toArray, List.getElem_cons_zero, List.getElem_cons_succ, Act.put, List.setIfInBounds_toArray, List.set_cons_zero, List.set_cons_succ]
              refine wpAnyM_take (i := 4) (oi := _) (v := .pointer (some ⟨wr.heap.size, 2, none⟩)) rfl (by kernel_rfl) (by kernel_rfl) (by kernel_rfl) (fun _ _ _ h => h) (by kernel_rfl) (by kernel_rfl) (Or.inl ⟨by kernel_rfl, ?_⟩) (by assumption) ?_
              · (intro w hSw; (try dsimp only at hSw); go_simp)
              try simp only [List.getElem_toArray, List.getElem_cons_zero, List.getElem_cons_succ, Act.put, List.setIfInBounds_toArray, List.set_cons_zero, List.set_cons_succ]
              refine wpAnyM_take (i := 5) (oi := _) (v := .agg #[.string Xl, .string Xd]) rfl (by kernel_rfl) (by kernel_rfl) (by kernel_rfl) (fun _ _ _ h => h) (by kernel_rfl) (by kernel_rfl) (Or.inl ⟨by kernel_rfl, ?_⟩) (by assumption) ?_
              · (intro w hSw; (try dsimp only at hSw); go_simp)
              try simp only [List.getElem_toArray, List.getElem_cons_zero, List.getElem_cons_succ, Act.put, List.setIfInBounds_toArray, List.set_cons_zero, List.set_cons_succ]
              refine wpAnyM_take (i := 6) (oi := _) (v := .bool false) rfl (by kernel_rfl) (by kernel_rfl) (by kernel_rfl) (fun _ _ _ h => h) (by kernel_rfl) (by kernel_rfl) (Or.inl ⟨by kernel_rfl, ?_⟩) (by assumption) ?_
              · (intro w hSw; (try dsimp only at hSw); go_simp)
              try simp only [List.getElem_toArray, List.getElem_cons_zero, List.getElem_cons_succ, Act.put, List.setIfInBounds_toArray, List.set_cons_zero, List.set_cons_succ]
              refine wpAnyM_take (i := 7) (oi := _) (v := .bool false) rfl (by kernel_rfl) (by kernel_rfl) (by kernel_rfl) (fun _ _ _ h => h) (by kernel_rfl) (by kernel_rfl) (Or.inl ⟨by kernel_rfl, ?_⟩) (by assumption) ?_
              · (intro w hSw; (try dsimp only at hSw); go_simp)
              try simp only [List.getElem_toArray, List.getElem_cons_zero, List.getElem_cons_succ, Act.put, List.setIfInBounds_toArray, List.set_cons_zero, List.set_cons_succ]
              refine wpAnyM_take (i := 8) (oi := _) (v := .bool false) rfl (by kernel_rfl) (by kernel_rfl) (by kernel_rfl) (fun _ _ _ h => h) (by kernel_rfl) (by kernel_rfl) (Or.inl ⟨by kernel_rfl, ?_⟩) (by assumption) ?_
              · (intro w hSw; (try dsimp only at hSw); go_simp)
              try simp only [List.getElem_toArray, List.getElem_cons_zero, List.getElem_cons_succ, Act.put, List.setIfInBounds_toArray, List.set_cons_zero, List.set_cons_succ]
              refine wpAnyM_take (i := 9) (oi := _) (v := .pointer (some ⟨wr.heap.size, 2, none⟩)) rfl (by kernel_rfl) (by kernel_rfl) (by kernel_rfl) (fun _ _ _ h => h) (by kernel_rfl) (by kernel_rfl) (Or.inl ⟨by kernel_rfl, ?_⟩) (by assumption) ?_
              · (intro w hSw; (try dsimp only at hSw); go_simp)
              try simp only [List.getElem_toArray, List.getElem_cons_zero, List.getElem_cons_succ, Act.put, List.setIfInBounds_toArray, List.set_cons_zero, List.set_cons_succ]
              refine wpAnyM_take (i := 10) (oi := _) (v := .agg #[.string Xl, .string Xd]) rfl (by kernel_rfl) (by kernel_rfl) (by kernel_rfl) (fun _ _ _ h => h) (by kernel_rfl) (by kernel_rfl) (Or.inl ⟨by kernel_rfl, ?_⟩) (by assumption) ?_
              · (intro w hSw; (try dsimp only at hSw); go_simp)
              try simp only [List.getElem_toArray, List.getElem_cons_zero, List.getElem_cons_succ, Act.put, List.setIfInBounds_toArray, List.set_cons_zero, List.set_cons_succ]
              refine wpAnyM_take (i := 11) (oi := _) (v := .slice (some ⟨bp, 0, none⟩) PU.length c9) rfl (by kernel_rfl) (by kernel_rfl) (by kernel_rfl) (fun _ _ _ h => h) (by kernel_rfl) (by kernel_rfl) (Or.inl ⟨by kernel_rfl, ?_⟩) (by assumption) ?_
              · (intro w hSw; (try dsimp only at hSw); go_simp)
              try simp only [List.getElem_toArray, List.getElem_cons_zero, List.getElem_cons_succ, Act.put, List.setIfInBounds_toArray, List.set_cons_zero, List.set_cons_succ]
              refine wpAnyM_take (i := 12) (oi := _) (v := .int .i64 (k : Int)) rfl (by kernel_rfl) (by kernel_rfl) (by kernel_rfl) (fun _ _ _ h => h) (by kernel_rfl) (by kernel_rfl) (Or.inl ⟨by kernel_rfl, ?_⟩) (by assumption) ?_
              · (intro w hSw; (try dsimp only at hSw); go_simp)
              try simp only [List.getElem_toArray, List.getElem_cons_zero, List.getElem_cons_succ, Act.put, List.setIfInBounds_toArray, List.set_cons_zero, List.set_cons_succ]
              refine wpAnyM_take (i := 13) (oi := _) (v := .pointer (some ⟨bp, k * 2, none⟩)) rfl (by kernel_rfl) (by kernel_rfl) (by kernel_rfl) (fun _ _ _ h => h) (by kernel_rfl) (by kernel_rfl) (Or.inl ⟨by kernel_rfl, ?_⟩) (by assumption) ?_
              · (intro w hSw; (try dsimp only at hSw); go_simp)
              try simp only [List.getElem_toArray, List.getElem_cons_zero, List.getElem_cons_succ, Act.put, List.setIfInBounds_toArray, List.set_cons_zero, List.set_cons_succ]
              refine wpAnyM_take (i := 14) (oi := _) (v := .agg #[.string Ul, .string Ud]) rfl (by kernel_rfl) (by kernel_rfl) (by kernel_rfl) (fun _ _ _ h => h) (by kernel_rfl) (by kernel_rfl) (Or.inl ⟨by kernel_rfl, ?_⟩) (by assumption) ?_
              · (intro w hSw; (try dsimp only at hSw); go_simp)
              try simp only [List.getElem_toArray, List.getElem_cons_zero, List.getElem_cons_succ, Act.put, List.setIfInBounds_toArray, List.set_cons_zero, List.set_cons_succ]
              refine wpAnyM_one (i := 15) (o := _) rfl (by kernel_rfl) (fun K hK => ?_)
              go_simp
              refine (HS2.out _).mono ?_
              rintro e w8 ⟨rfl, hb8⟩
              have hbd8 := hbd.trans (hb8.mono hbd.size)
              have hS7 := HKS2.out _ hbd8
              refine hK.out _ _ (fun _ => hS7) (fun hHeld => ?_)
              clear hK K
              try have hHeld := hHeld (by decide)
              try simp only [List.getElem_toArray, List.getElem_cons_zero, List.getElem_cons_succ, Act.put, List.setIfInBounds_toArray, List.set_cons_zero, List.set_cons_succ]
              refine wpAnyM_take (i := 16) (oi := _) (v := .bool false) rfl (by kernel_rfl) (by kernel_rfl) (by kernel_rfl) (fun _ _ _ h => h) (by kernel_rfl) (by kernel_rfl) (Or.inl ⟨by kernel_rfl, ?_⟩) (by assumption) ?_
              · (intro w hSw; (try dsimp only at hSw); go_simp)
              try simp only [List.getElem_toArray, List.getElem_cons_zero, List.getElem_cons_succ, Act.put, List.setIfInBounds_toArray, List.set_cons_zero, List.set_cons_succ]
              refine wpAnyM_take (i := 17) (oi := _) (v := undef) rfl (by kernel_rfl) (by kernel_rfl) (by kernel_rfl) (fun _ _ _ h => h) (by kernel_rfl) (by kernel_rfl) (Or.inr ⟨by kernel_rfl, rfl⟩) (by assumption) ?_
              try simp only [List.getElem_toArray, List.getElem_cons_zero, List.getElem_cons_succ, Act.put, List.setIfInBounds_toArray, List.set_cons_zero, List.set_cons_succ]
              refine wpAnyM_take (i := 18) (oi := _) (v := undef) rfl (by kernel_rfl) (by kernel_rfl) (by kernel_rfl) (fun _ _ _ h => h) (by kernel_rfl) (by kernel_rfl) (Or.inr ⟨by kernel_rfl, rfl⟩) (by assumption) ?_
              try simp only [List.getElem_toArray, List.getElem_cons_zero, List.getElem_cons_succ, Act.put, List.setIfInBounds_toArray, List.set_cons_zero, List.set_cons_succ]
              refine wpAnyM_take (i := 19) (oi := _) (v := undef) rfl (by kernel_rfl) (by kernel_rfl) (by kernel_rfl) (fun _ _ _ h => h) (by kernel_rfl) (by kernel_rfl) (Or.inr ⟨by kernel_rfl, rfl⟩) (by assumption) ?_
              try simp only [List.getElem_toArray, List.getElem_cons_zero, List.getElem_cons_succ, Act.put, List.setIfInBounds_toArray, List.set_cons_zero, List.set_cons_succ]
              refine wpAnyM_take (i := 20) (oi := _) (v := undef) rfl (by kernel_rfl) (by kernel_rfl) (by kernel_rfl) (fun _ _ _ h => h) (by kernel_rfl) (by kernel_rfl) (Or.inr ⟨by kernel_rfl, rfl⟩) (by assumption) ?_
              try simp only [List.getElem_toArray, List.getElem_cons_zero, List.getElem_cons_succ, Act.put, List.setIfInBounds_toArray, List.set_cons_zero, List.set_cons_succ]
              refine wpAnyM_take (i := 21) (oi := _) (v := undef) rfl (by kernel_rfl) (by kernel_rfl) (by kernel_rfl) (fun _ _ _ h => h) (by kernel_rfl) (by kernel_rfl) (Or.inr ⟨by kernel_rfl, rfl⟩) (by assumption) ?_
              try simp only [List.getElem_toArray, List.getElem_cons_zero, List.getElem_cons_succ, Act.put, List.setIfInBounds_toArray, List.set_cons_zero, List.set_cons_succ]
              refine wpAnyM_take (i := 22) (oi := _) (v := undef) rfl (by kernel_rfl) (by kernel_rfl) (by kernel_rfl) (fun _ _ _ h => h) (by kernel_rfl) (by kernel_rfl) (Or.inr ⟨by kernel_rfl, rfl⟩) (by assumption) ?_
              try simp only [List.getElem_toArray, List.getElem_cons_zero, List.getElem_cons_succ, Act.put, List.setIfInBounds_toArray, List.set_cons_zero, List.set_cons_succ]
              refine wpAnyM_take (i := 23) (oi := _) (v := undef) rfl (by kernel_rfl) (by kernel_rfl) (by kernel_rfl) (fun _ _ _ h => h) (by kernel_rfl) (by kernel_rfl) (Or.inr ⟨by kernel_rfl, rfl⟩) (by assumption) ?_
              try simp only [List.getElem_toArray, List.getElem_cons_zero, List.getElem_cons_succ, Act.put, List.setIfInBounds_toArray, List.set_cons_zero, List.set_cons_succ]
              refine wpAnyM_take (i := 24) (oi := _) (v := undef) rfl (by kernel_rfl) (by kernel_rfl) (by kernel_rfl) (fun _ _ _ h => h) (by kernel_rfl) (by kernel_rfl) (Or.inr ⟨by kernel_rfl, rfl⟩) (by assumption) ?_
              try simp only [List.getElem_toArray, List.getElem_cons_zero, List.getElem_cons_succ, Act.put, List.setIfInBounds_toArray, List.set_cons_zero, List.set_cons_succ]
              refine wpAnyM_take (i := 25) (oi := _) (v := undef) rfl (by kernel_rfl) (by kernel_rfl) (by kernel_rfl) (fun _ _ _ h => h) (by kernel_rfl) (by kernel_rfl) (Or.inr ⟨by kernel_rfl, rfl⟩) (by assumption) ?_
              try simp only [List.getElem_toArray, List.getElem_cons_zero, List.getElem_cons_succ, Act.put, List.setIfInBounds_toArray, List.set_cons_zero, List.set_cons_succ]
              refine wpAnyM_take (i := 26) (oi := _) (v := undef) rfl (by kernel_rfl) (by kernel_rfl) (by kernel_rfl) (fun _ _ _ h => h) (by kernel_rfl) (by kernel_rfl) (Or.inr ⟨by kernel_rfl, rfl⟩) (by assumption) ?_
              try simp only [List.getElem_toArray, List.getElem_cons_zero, List.getElem_cons_succ, Act.put, List.setIfInBounds_toArray, List.set_cons_zero, List.set_cons_succ]
              refine wpAnyM_take (i := 27) (oi := _) (v := undef) rfl (by kernel_rfl) (by kernel_rfl) (by kernel_rfl) (fun _ _ _ h => h) (by kernel_rfl) (by kernel_rfl) (Or.inr ⟨by kernel_rfl, rfl⟩) (by assumption) ?_
              try simp only [List.getElem_toArray, List.getElem_cons_zero, List.getElem_cons_succ, Act.put, List.setIfInBounds_toArray, List.set_cons_zero, List.set_cons_succ]
              refine wpAnyM_take (i := 28) (oi := _) (v := undef) rfl (by kernel_rfl) (by kernel_rfl) (by kernel_rfl) (fun _ _ _ h => h) (by kernel_rfl) (by kernel_rfl) (Or.inr ⟨by kernel_rfl, rfl⟩) (by assumption) ?_
              try simp only [List.getElem_toArray, List.getElem_cons_zero, List.getElem_cons_succ, Act.put, List.setIfInBounds_toArray, List.set_cons_zero, List.set_cons_succ]
              refine wpAnyM_take (i := 29) (oi := _) (v := undef) rfl (by kernel_rfl) (by kernel_rfl) (by kernel_rfl) (fun _ _ _ h => h) (by kernel_rfl) (by kernel_rfl) (Or.inr ⟨by kernel_rfl, rfl⟩) (by assumption) ?_
              try simp only [List.getElem_toArray, List.getElem_cons_zero, List.getElem_cons_succ, Act.put, List.setIfInBounds_toArray, List.set_cons_zero, List.set_cons_succ]
              refine wpAnyM_take (i := 30) (oi := _) (v := .bool false) rfl (by kernel_rfl) (by kernel_rfl) (by kernel_rfl) (fun _ _ _ h => h) (by kernel_rfl) (by kernel_rfl) (Or.inl ⟨by kernel_rfl, ?_⟩) (by assumption) ?_
              · (intro w hSw; (try dsimp only at hSw); go_simp)
              try simp only [List.getElem_toArray, List.getElem_cons_zero, List.getElem_cons_succ, Act.put, List.setIfInBounds_toArray, List.set_cons_zero, List.set_cons_succ]
              refine wpAnyM_one (i := 31) (o := _) rfl (by kernel_rfl) (fun K hK => ?_)
              go_simp
              refine hK.out _ _ (fun h => absurd rfl h) (fun hHeld => ?_)
              clear hK K
              try have hHeld := hHeld (by decide)
              try simp only [List.getElem_toArray, List.getElem_cons_zero, List.getElem_cons_succ, Act.put, List.setIfInBounds_toArray, List.set_cons_zero, List.set_cons_succ]
              refine wpAnyM_done (by kernel_rfl) ?_ _
              have HB11 := Lib.hid (HB10.out.trans (hbd8.mono HB10.out.size))
              obtain ⟨r0, r1, r2, r3, r4, r5, r6, r7, r8, r9, r10, r11⟩ := HKS2.out _ hbd8
              clear hS hS7 hbd hb8 hbd8
              go_wp2_with fail
              go_quiet (fail)
              go_wp2_with fail
              go_roundg (sp.length - (k + 1))
              case rel =>
                exact ⟨k + 1, by go_num, by rw [HX1.out], by rw [HX2.out], by omega, rfl, HB11.out.trans ⟨rfl, rfl, rfl, Nat.le_refl _, fun _ _ => rfl⟩⟩
              case measure => have := HG.out; omega
          · have hge : ¬ (k : Int) < (sp.length : Int) := by omega
            obtain rfl : k = sp.length := by omega
            obtain ⟨hTs, hTd⟩ := HT.out
            obtain ⟨hle1, hle2⟩ := HLE.out
            have hsl : S.data.toList.length = S.size := size_list S
            have hdr := HDR.out
            rw [hsl] at hle1
            rw [← hTs] at hle2
            have hz1 : S.extract (endOf sp sp.length) S.size = T.extract (endOf other sp.length) T.size := ba_eq (by
              rw [ext_list S _ S.size (Nat.le_refl _), ext_list T _ T.size (Nat.le_refl _), hTd, hTs, ← hsl]
              unfold slc
              rw [List.take_of_length_le (Nat.le_refl _), List.take_of_length_le (Nat.le_refl _)]
              exact hdr)
            have HWK := Lib.hid (fun W (hb : Below wr.heap.size wr W) => tells_any W (HE7.out.below (HB8.out.trans (hb.mono HB8.out.size))))
            clear hdr hsl hTs hTd
            generalize endOf sp sp.length = A0 at *
            generalize endOf other sp.length = B0 at *
            generalize hZ : T.extract B0 T.size = Z at *
            have i0 : (0 : Int) ≤ (A0 : Int) := by omega
            have i1 : (A0 : Int) ≤ (S.size : Int) := by omega
            have i2 : (0 : Int) ≤ (B0 : Int) := by omega
            have i3 : (B0 : Int) ≤ (T.size : Int) := by omega
            have hbd := drew_below wr
            go_wp2_with fail
            go_region_held3 (fun W => True) (exact trivial)
              (first | ((with_reducible refine (HWK.out _ hbd).mono ?_); rintro e w8 ⟨rfl, hb8⟩; have hbd8 := hbd.trans (hb8.mono hbd.size); clear hbd hb8; have hbd := hbd8; clear hbd8))
            have HBF := Lib.hid (HA7.out.trans ((HB8.out.trans (hbd.mono HB8.out.size)).mono HA7.out.size))
            go_wp2
            go_ret
            exact ⟨rfl, HBF.out⟩
  · obtain ⟨q1, q2⟩ := find_none hz
    rw [q1] at hsr
    clear q1
    generalize (findL S.data.toList).2 = er at hz q2 ⊢
    obtain ⟨p6, c6, rfl, -⟩ := hsr
    have HWK := Lib.hid (tells_any w3 HE3.out)
    rcases q2 with rfl | rfl | rfl
    all_goals
      go_wp2_with fail
      refine HWK.out.mono ?_
      rintro e w4 ⟨rfl, hb4⟩
      have HB4 := Lib.hid (HB3.out.trans (hb4.mono HB3.out.size))
      clear hb4
      go_wp2
      go_ret
      exact ⟨rfl, HB4.out⟩
end Go.Proofs.YtffngbjnbigipaaGreatDoor
