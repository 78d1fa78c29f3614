/- Several texts joined into one (a claim has a limit of files). -/
import Derived.Test.YtffngbjnbigipaaGreatDoorProg
import Derived.Shelf.Strings.BuilderK
import Derived.Test.YtffngbjnbigipaaGreatDoorPutA
import Derived.Test.YtffngbjnbigipaaGreatDoorOrd
import Derived.Test.YtffngbjnbigipaaGreatDoorShelf
/- strings.Builder's WriteString and String in this seat's numbers (printed by mklay.py, types' numbers given by hand). -/
namespace Go.Proofs
set_option maxRecDepth 100000
def Tryz.lays166_ren : Go.Shelf.Ren := ⟨fun | 166 => 41 | 240 => 79 | 276 => 127 | n => n, fun | 0 => 0 | 3 => 3 | 4 => 4 | 5 => 5 | 9 => 9 | 20 => 20 | 37 => 80 | 70 => 79 | 72 => 82 | 75 => 85 | 80 => 89 | 164 => 146 | n => n, fun n => n⟩
theorem Tryz.lays166 : Go.Proofs.Lays.n166 Tryz.prog Tryz.lays166_ren := {
  mixed := by kernel_rfl
  f166 := Tryz.func41.trans (congrArg some (by kernel_rfl))
  f240 := Tryz.func79.trans (congrArg some (by kernel_rfl))
  f276 := Tryz.func127.trans (congrArg some (by kernel_rfl))
  t0 := Tryz.underlying0
  a0 := Tryz.isAgg0
  z0 := Tryz.sizeOf0
  v0 := Tryz.zeroValue0
  t3 := Tryz.underlying3
  a3 := Tryz.isAgg3
  z3 := Tryz.sizeOf3
  v3 := Tryz.zeroValue3
  t4 := Tryz.underlying4
  a4 := Tryz.isAgg4
  z4 := Tryz.sizeOf4
  v4 := Tryz.zeroValue4
  t9 := Tryz.underlying9
  a9 := Tryz.isAgg9
  z9 := Tryz.sizeOf9
  v9 := Tryz.zeroValue9
  t20 := Tryz.underlying20
  a20 := Tryz.isAgg20
  z20 := Tryz.sizeOf20
  v20 := Tryz.zeroValue20
  t37 := Tryz.underlying80
  a37 := Tryz.isAgg80
  z37 := Tryz.sizeOf80
  v37 := Tryz.zeroValue80
  t70 := Tryz.underlying79
  a70 := Tryz.isAgg79
  z70 := Tryz.sizeOf79
  v70 := Tryz.zeroValue79
  t72 := Tryz.underlying82
  a72 := Tryz.isAgg82
  z72 := Tryz.sizeOf82
  v72 := Tryz.zeroValue82
  t75 := Tryz.underlying85
  a75 := Tryz.isAgg85
  z75 := Tryz.sizeOf85
  v75 := Tryz.zeroValue85
  t164 := Tryz.underlying146
  a164 := Tryz.isAgg146
  z164 := Tryz.sizeOf146
  v164 := Tryz.zeroValue146 }
theorem Tryz.Builder_Extra_166 : Builder.Extra Tryz.prog Tryz.lays166_ren := {
  sizeBuilder := by kernel_rfl
  liesBuilder := by kernel_rfl
  t5 := Tryz.underlying5
  a5 := Tryz.isAgg5
  z5 := Tryz.sizeOf5
  v5 := Tryz.zeroValue5
  infoByte := by kernel_rfl
  cellsByte := by kernel_rfl
  sizeByte := by kernel_rfl
  neB5 := by decide }
open Go.RowKit in
theorem Tryz.WriteString_k (B b : Nat) (bs : List Value) (s : ByteArray) (w : World) (h : Lib.IsBuilderF 82 5 B b bs w) (hlen : bs.length + s.size ≤ 140737488355328) (hBw : B ≤ w.heap.size) :
    Calls Tryz.prog 41 #[.pointer (some ⟨b, 0, none⟩), .string s] w fun e w' => e = .returned (.tuple #[.int .i64 s.size, .nilIface]) ∧ (Lib.BuilderAtF 82 5 B b (.pointer (some ⟨b, 0, none⟩)) (bs ++ Lib.strCells s) w' ∧ Below B w w' ∧ Lib.OthersKept 5 (some b) w w') :=
  Any.Builder_WriteString_k Tryz.lays166 Tryz.Builder_Extra_166 B b bs s w h hlen hBw
end Go.Proofs

/- slices.ContainsFunc over a row of addresses, for list.Put's test. -/
namespace Go.Proofs.YtffngbjnbigipaaGreatDoor
open Go.RowKit Go.Lib
set_option linter.unusedSimpArgs false
set_option linter.unusedVariables false
set_option linter.unnecessarySimpa false
set_option maxRecDepth 100000

theorem clo54 (a : Ad) (h1 : a.1.length ≤ 1000000000) (h2 : a.2.length ≤ 1000000000) (w : World) (hE : Env w) : Calls Tryz.prog 54 #[addrV a] w fun e w' => e = .returned (.bool (!mayL a)) ∧ Below w.heap.size w w' := by
  have HM := Lib.hid (fun W (hE : Env W) => May_any a h1 h2 W hE)
  obtain ⟨x, y⟩ := a
  simp only [addrV] at HM ⊢
  generalize mayL (x, y) = M at HM ⊢
  have ht1 := Two.made w (.string ⟨x.toArray⟩) (.string ⟨y.toArray⟩) 30
  have hb1 := alloc_below w (.cells #[.string ⟨x.toArray⟩, .string ⟨y.toArray⟩] 30)
  generalize hw1 : w.alloc (.cells #[.string ⟨x.toArray⟩, .string ⟨y.toArray⟩] 30) = w1 at ht1 hb1
  obtain ⟨-, c0, c1, f0, f1⟩ := ht1
  go_enter Tryz.func54, Tryz.ntmps54
  go_wp2_with fail
  refine (HM.out _ (hE.below hb1)).mono ?_
  rintro e w2 ⟨rfl, hb2⟩
  go_wp2
  go_ret
  exact ⟨rfl, hb1.trans (hb2.mono hb1.size)⟩
def CoRel (l : List Ad) (w : World) (g : Nat) (v8 : Value) (W : World) : Prop :=
  ∃ k : Nat, v8 = .int .i64 (k : Int) ∧ k ≤ l.length ∧ g = l.length - k ∧ Below w.heap.size w W ∧ (∀ (i : Nat) (a : Ad), i < k → l[i]? = some a → mayL a = true)
set_option maxHeartbeats 4000000 in
theorem Index_addr (l : List Ad) (v : Value) (w : World) (hrow : ARow w v l) (hl : l.length ≤ 1000000) (hA : ∀ a ∈ l, a.1.length ≤ 1000000000 ∧ a.2.length ≤ 1000000000) (hE : Env w) :
    Calls Tryz.prog 98 #[v, .func (.func 54) #[] #[]] w fun e w' => ∃ i : Int, e = .returned (.int .i64 i) ∧ decide (0 ≤ i) = (l.any fun a => !mayL a) ∧ Below w.heap.size w w' := by
  have HROW := Lib.hid hrow
  obtain ⟨p, cap, rfl, -⟩ := hrow
  have HE := Lib.hid hE
  clear hE
  go_enter Tryz.func98, Tryz.ntmps98
  go_wp2_with fail
  go_loopg [8] l.length (fun g v8 W => CoRel l w g v8 W)
  case atStart => exact ⟨0, rfl, Nat.zero_le _, rfl, Below.refl _ _, fun i a h => by omega⟩
  case round =>
    obtain ⟨k, rfl, hk, hg, hb, hall⟩ := hrel
    have HG := Lib.hid hg
    have HB := Lib.hid hb
    have HALL := Lib.hid hall
    clear hg hb hall
    by_cases hlt : k < l.length
    · have hk0 : (0 : Int) ≤ (k : Int) := by omega
      have hk1 : (k : Int) < (l.length : Int) := by omega
      have hwk : IntKind.i64.wrap ((k : Int) + 1) = (k : Int) + 1 := by rw [IntKind.wrap_i64]; omega
      have hr := HROW.out.below HB.out
      obtain ⟨p', cap', he, h | ⟨b, hp, h⟩⟩ := hr
      · rw [h] at hlt; simp at hlt
      obtain rfl : cap = cap' := by injection he
      obtain rfl : p = p' := by injection he
      subst hp
      clear he
      obtain ⟨c0, c1⟩ := h k _ (List.getElem?_eq_getElem hlt)
      have HC := Lib.hid (clo54 l[k] (hA _ (List.getElem_mem hlt)).1 (hA _ (List.getElem_mem hlt)).2 wr (HE.out.below HB.out))
      have HK := Lib.hid (show l[k]? = some l[k] from List.getElem?_eq_getElem hlt)
      have HMEM := Lib.hid (List.getElem_mem hlt)
      generalize l[k] = a at c0 c1 HC HK HMEM
      obtain ⟨x, y⟩ := a
      simp only [addrV] at HC c0 c1
      clear h
      cases hm : mayL (x, y) with
      | true =>
        rw [hm] at HC
        have HM := Lib.hid hm
        clear hm
        go_wp2_with fail
        refine HC.out.mono ?_
        rintro e w2 ⟨rfl, hb2⟩
        go_wp2_with fail
        go_roundg (l.length - (k + 1))
        case rel =>
          refine ⟨k + 1, by go_num, by omega, rfl, HB.out.trans (hb2.mono HB.out.size), fun i a hi ha => ?_⟩
          by_cases hik : i < k
          · exact HALL.out i a hik ha
          · obtain rfl : i = k := by omega
            rw [HK.out] at ha
            cases ha
            exact HM.out
        case measure => have := HG.out; omega
      | false =>
        rw [hm] at HC
        have HM := Lib.hid hm
        clear hm
        go_wp2_with fail
        refine HC.out.mono ?_
        rintro e w2 ⟨rfl, hb2⟩
        go_wp2
        go_ret
        refine ⟨_, rfl, ?_, HB.out.trans (hb2.mono HB.out.size)⟩
        rw [decide_eq_true hk0, eq_comm, List.any_eq_true]
        exact ⟨_, HMEM.out, by rw [HM.out]; rfl⟩
    · have hge : ¬ (k : Int) < (l.length : Int) := by omega
      go_wp2
      go_ret
      refine ⟨_, rfl, ?_, HB.out⟩
      rw [eq_comm, show decide ((0 : Int) ≤ -1) = false from rfl, List.any_eq_false]
      intro a ha
      obtain ⟨i, hi, rfl⟩ := List.getElem_of_mem ha
      rw [HALL.out i l[i] (by omega) (List.getElem?_eq_getElem hi)]
      simp
set_option maxHeartbeats 1000000 in
theorem Contains_addr (l : List Ad) (v : Value) (w : World) (hrow : ARow w v l) (hl : l.length ≤ 1000000) (hA : ∀ a ∈ l, a.1.length ≤ 1000000000 ∧ a.2.length ≤ 1000000000) (hE : Env w) :
    Calls Tryz.prog 53 #[v, .func (.func 54) #[] #[]] w fun e w' => e = .returned (.bool (l.any fun a => !mayL a)) ∧ Below w.heap.size w w' := by
  have HI := Lib.hid (Index_addr l v w hrow hl hA hE)
  generalize (l.any fun a => !mayL a) = M at HI ⊢
  clear hrow hE hA
  go_enter Tryz.func53, Tryz.ntmps53
  go_wp2_with fail
  refine HI.out.mono ?_
  rintro e w2 ⟨i, rfl, hi, hb2⟩
  go_wp2
  go_ret
  subst hi
  exact ⟨rfl, hb2⟩
end Go.Proofs.YtffngbjnbigipaaGreatDoor

/- list.Put: what it hands back, and that nothing old turns. -/
namespace Go.Proofs.YtffngbjnbigipaaGreatDoor
open Go.RowKit Go.Lib
set_option linter.unusedSimpArgs false
set_option linter.unusedVariables false
set_option linter.unnecessarySimpa false
set_option maxRecDepth 100000

theorem builder_keeps {B b : Nat} {bs : List Value} {w W : World} (h : Lib.IsBuilderF 82 5 B b bs w) (hb : Below w.heap.size w W) : Lib.IsBuilderF 82 5 B b bs W := by
  have key : ∀ k o, w.heap[k]? = some o → W.heap[k]? = some o := fun k o hk => by
    have hlt := (Array.getElem?_eq_some_iff.1 hk).1
    rw [hb.block k hlt]; exact hk
  have one : ∀ p, Lib.BuilderAtF 82 5 B b p bs w → Lib.BuilderAtF 82 5 B b p bs W := fun p ⟨hB, v, hbk, hown, hne⟩ => by
    refine ⟨hB, v, key _ _ hbk, ⟨hown.1, ?_⟩, hne⟩
    rcases hown.2 with h0 | ⟨g, cap, cur, fz, hv, hbg, hg, r⟩
    · exact .inl h0
    · exact .inr ⟨g, cap, cur, fz, hv, hbg, key _ _ hg, r⟩
  exact h.elim (fun h => .inl (one _ h)) (fun h => .inr (one _ h))
theorem builder_lt {B b : Nat} {bs : List Value} {w : World} (h : Lib.IsBuilderF 82 5 B b bs w) : b < w.heap.size := by
  rcases h with ⟨_, v, hb, _⟩ | ⟨_, v, hb, _⟩ <;> exact (Array.getElem?_eq_some_iff.1 hb).1
/-- a spot's own block. -/
def SpBlk (W : World) (C : Nat) (i j : Int) (X Y : ByteArray) : Prop := W.heap[C]? = some (.cells #[.int .i64 i, .int .i64 j, .string X, .string Y] 32)
theorem SpBlk.made (w : World) (i j : Int) (X Y : ByteArray) : SpBlk (w.alloc (.cells #[.int .i64 i, .int .i64 j, .string X, .string Y] 32)) w.heap.size i j X Y := heap_alloc_new w _
theorem SpBlk.cells {W : World} {C : Nat} {i j : Int} {X Y : ByteArray} (h : SpBlk W C i j X Y) :
    W.cell? ⟨C, 0, none⟩ = some (.int .i64 i) ∧ W.cell? ⟨C, 1, none⟩ = some (.int .i64 j) ∧ W.cell? ⟨C, 2, none⟩ = some (.string X) ∧ W.cell? ⟨C, 3, none⟩ = some (.string Y) := by
  have h' : W.heap[C]? = some (.cells #[.int .i64 i, .int .i64 j, .string X, .string Y] 32) := h
  refine ⟨?_, ?_, ?_, ?_⟩ <;> (rw [Lib.cell_of_heap h']; rfl)
theorem SpBlk.kept {W W' : World} {C b : Nat} {i j : Int} {X Y : ByteArray} (h : SpBlk W C i j X Y) (hk : Lib.OthersKept 5 (some b) W W') (hne : C ≠ b) : SpBlk W' C i j X Y :=
  hk C _ h (fun e => hne (Option.some.inj e)) (fun c fz e => by cases e)
theorem SpBlk.below {W W' : World} {C : Nat} {i j : Int} {X Y : ByteArray} (h : SpBlk W C i j X Y) (hb : Below W.heap.size W W') : SpBlk W' C i j X Y := by
  have hlt : C < W.heap.size := (Array.getElem?_eq_some_iff.1 h).1
  unfold SpBlk
  rw [hb.block C hlt]
  exact h
theorem SpBlk.lt {W : World} {C : Nat} {i j : Int} {X Y : ByteArray} (h : SpBlk W C i j X Y) : C < W.heap.size := (Array.getElem?_eq_some_iff.1 h).1
/-- the spots gone through: what the builder holds. -/
def WRel (s : ByteArray) (A : List Sp) (l : List Ad) (w : World) (B : Nat) (g : Nat) (v10 v43 : Value) (W : World) : Prop :=
  ∃ (k n : Nat) (L : List UInt8), v10 = .int .i64 (n : Int) ∧ v43 = .int .i64 (k : Int) ∧ putUp s.data.toList A l k = (L, n) ∧ k ≤ A.length ∧ g = A.length - k ∧ Below B w W ∧ B ≤ W.heap.size ∧ Lib.IsBuilderF 82 5 B B (Lib.byteCells L) W
theorem cells_snoc (L : List UInt8) (s : ByteArray) : Lib.byteCells L ++ Lib.strCells s = Lib.byteCells (L ++ s.data.toList) := by rw [Lib.strCells_eq, Lib.byteCells_append]

set_option maxHeartbeats 16000000 in
theorem Put_any (s : ByteArray) (hs : s.size ≤ 900000) (l : List Ad) (v : Value) (w : World) (hrow : ARow w v l) (hl : l.length ≤ 1000) (hA : ∀ a ∈ l, a.1.length ≤ 1000 ∧ a.2.length ≤ 1000) (hE : Env w) :
    Calls Tryz.prog 24 #[.string s, v] w fun e w' => e = .returned (.tuple #[.string ⟨(putL s.data.toList l).1.toArray⟩, .int .i64 ((putL s.data.toList l).2 : Int)]) ∧ Below w.heap.size w w' := by
  have HB := Lib.hid (Find_row s (by omega) w hE)
  have hlen := find_len s.data.toList
  have hgood := findL_good s.data.toList
  obtain ⟨F, hF⟩ : ∃ F, findL s.data.toList = F := ⟨_, rfl⟩
  rw [hF] at HB hlen hgood
  obtain ⟨A, ea⟩ := F
  have hp := putL_of (l := l) hF
  obtain ⟨R, hR⟩ : ∃ R, R = putL s.data.toList l := ⟨_, rfl⟩
  rw [← hR] at hp ⊢
  have HP := Lib.hid hp
  have HG := Lib.hid hgood
  have HROW := Lib.hid hrow
  have HE := Lib.hid hE
  clear hp hgood hF hR hE
  obtain ⟨r1, r2⟩ := R
  simp only at HB HG hlen ⊢
  have HCO := Lib.hid (fun W (hb : Below w.heap.size w W) => Contains_addr l v W (hrow.below hb) (by omega) (fun a ha => by have := hA a ha; omega) (HE.out.below hb))
  obtain ⟨M, hM⟩ : ∃ M, M = l.any fun a => !mayL a := ⟨_, rfl⟩
  rw [← hM] at HP HCO
  clear hM
  obtain ⟨p, cap, rfl, -⟩ := hrow
  go_enter Tryz.func24, Tryz.ntmps24
  go_wp2_with fail
  refine HB.out.mono ?_
  rintro e w1 ⟨vb, rfl, hrb, hb1⟩
  have HS1 := Lib.hid hrb
  have HB1 := Lib.hid hb1
  obtain ⟨pb, capb, rfl, -⟩ := hrb
  clear hb1
  go_wp2_with fail
  refine (HCO.out _ HB1.out).mono ?_
  rintro e w3 ⟨rfl, hb3⟩
  have HBR := Lib.hid (HB1.out.trans (hb3.mono HB1.out.size))
  have HS := Lib.hid (HS1.out.below hb3)
  clear hb3 HS1 HCO HB HB1
  by_cases h5 : ea = 5
  · subst h5
    have hP := HP.out
    rw [if_pos rfl] at hP
    injection hP with q1 q2
    subst q1; subst q2
    go_wp2
    go_ret2
    exact ⟨rfl, HBR.out⟩
  · have he5 : ((ea : Int) == 5) = false := by rw [beq_eq_false_iff_ne]; omega
    have hP := HP.out
    rw [if_neg h5] at hP
    have HP := Lib.hid hP
    clear h5 hP
    cases M with
    | true =>
      have hP := HP.out
      simp only [if_true] at hP
      injection hP with q1 q2
      subst q1; subst q2
      go_wp2
      go_ret2
      exact ⟨rfl, HBR.out⟩
    | false =>
      have hP := HP.out
      simp only [Bool.false_eq_true, if_false] at hP
      have HP := Lib.hid hP
      clear hP
      by_cases h0 : ea = 0
      · subst h0
        have hP := HP.out
        rw [if_neg (by simp)] at hP
        have HP := Lib.hid hP
        clear hP
        by_cases hn : l.length = A.length
        · have hnn : ((l.length : Int) != (A.length : Int)) = false := by rw [bne_eq_false_iff_eq]; omega
          have hP := HP.out
          rw [if_neg (by simp [hn])] at hP
          have HP := Lib.hid hP
          have HN := Lib.hid hn
          clear hP hn
          have hbW := HBR.out
          have hst0 : Lib.IsBuilderF 82 5 w3.heap.size w3.heap.size (Lib.byteCells []) (w3.alloc (.cells #[.pointer none, .slice none 0 0] 82)) :=
            .inl ⟨Nat.le_refl _, .slice none 0 0, heap_alloc_new w3 _, ⟨rfl, .inl ⟨rfl, rfl⟩⟩, by simp [Value.ownBlock]⟩
          have HST := Lib.hid hst0
          clear hst0 hbW
          go_wp2_with fail
          go_loopg [10, 43] A.length (fun g v10 v43 W => WRel s A l w3 w3.heap.size g v10 v43 W)
          case atStart => exact ⟨0, 0, [], rfl, rfl, rfl, Nat.zero_le _, rfl, alloc_below _ _, by rw [World.size_alloc]; omega, HST.out⟩
          case round =>
            obtain ⟨k, n, L, rfl, rfl, hup, hk, hg, hb, hsz, hbu⟩ := hrel
            have HUP := Lib.hid hup
            have HG2 := Lib.hid hg
            have HB2 := Lib.hid hb
            have HBU := Lib.hid hbu
            have HSZ := Lib.hid hsz
            have hZ0 : L.length ≤ 120000000 := by
              have h1 := putUp_len (s := s.data.toList) (sp := A) (l := l) (T := 3003) (fun a ha => by have := text_len_le a; have := hA a ha; omega) k
              rw [hup] at h1
              simp only [size_list] at h1
              have h2 : k * (2 * s.size + 3003) ≤ 64 * (2 * 900000 + 3003) := Nat.mul_le_mul (by omega) (by omega)
              omega
            have hat := putUp_at HG.out HN.out k hk
            rw [hup, size_list] at hat
            simp only at hat
            have HAT := Lib.hid hat.1
            clear hg hb hup hbu hsz
            have hbr := HBR.out.trans (HB2.out.mono HBR.out.size)
            have HBW := Lib.hid hbr
            by_cases hlt : k < A.length
            · have hk0 : (0 : Int) ≤ (k : Int) := by omega
              have hk1 : (k : Int) < (A.length : Int) := by omega
              have hk2 : (k : Int) < (l.length : Int) := by have := HN.out; omega
              have hwk : IntKind.i64.wrap ((k : Int) + 1) = (k : Int) + 1 := by rw [IntKind.wrap_i64]; omega
              obtain ⟨p', cap', he, h⟩ := HROW.out.below HBR.out
              obtain rfl : cap = cap' := by injection he
              obtain rfl : p = p' := by injection he
              have hlk : k < l.length := by have := HN.out; omega
              obtain ⟨bb, hpb, hc⟩ := arow_at h hlk
              subst hpb
              clear he
              obtain ⟨pb', capb', he, h'⟩ := HS.out.below HB2.out
              obtain rfl : capb = capb' := by injection he
              obtain rfl : pb = pb' := by injection he
              obtain ⟨ba, hpb, hc'⟩ := srow_at h' hlt
              subst hpb
              clear he
              have had := hc k _ (List.getElem?_eq_getElem hlk)
              obtain ⟨c0, c1, c2, c3⟩ := hc' k _ (List.getElem?_eq_getElem hlt)
              have hmem := hA _ (List.getElem_mem hlk)
              have hst := putUp_step (s := s.data.toList) (List.getElem?_eq_getElem hlt) (List.getElem?_eq_getElem hlk)
              have hsg := HG.out.each A[k] (List.getElem_mem hlt)
              have h1 := hat.2 k _ (Nat.le_refl _) (List.getElem?_eq_getElem hlt)
              have h2 := hsg.lt
              have h3 := hsg.le
              have h45 : A[k].2.2.1.length ≤ 1000000 ∧ A[k].2.2.2.length ≤ 1000000 := by
                rw [hsg.rd]
                have q1 := parse_len (slc s.data.toList A[k].1 A[k].2.1)
                have q2 := slc_len s.data.toList A[k].1 A[k].2.1
                rw [size_list] at q2
                simp only
                omega
              rw [HUP.out] at hst
              have HHAD := Lib.hid had
              clear h h' hc hc' hsg hat had
              generalize A[k] = x at *
              generalize l[k] = a at *
              obtain ⟨f, t, lo, dm⟩ := x
              obtain ⟨xl, xd⟩ := a
              simp only [size_list] at h1 h2 h3 h45 hst c0 c1 c2 c3 HHAD hmem
              have HST := Lib.hid hst
              have i1 : (n : Int) ≤ (f : Int) := by omega
              have i2 : (f : Int) ≤ (t : Int) := by omega
              have i3 : (t : Int) ≤ (s.size : Int) := by omega
              have i4 : (f : Int) ≤ (s.size : Int) := by omega
              have i5 : (0 : Int) ≤ (n : Int) := by omega
              have i6 : (0 : Int) ≤ (f : Int) := by omega
              have l1 : Lib.byteCells L ++ Lib.strCells (s.extract n f) = Lib.byteCells (L ++ slc s.data.toList n f) := by rw [cells_snoc, ext_list s n f (by omega)]
              have l2 : Lib.byteCells (L ++ slc s.data.toList n f) ++ Lib.strCells (s.extract f t) = Lib.byteCells (L ++ slc s.data.toList n f ++ slc s.data.toList f t) := by rw [cells_snoc, ext_list s f t (by omega)]
              have l3 : Lib.byteCells (L ++ slc s.data.toList n f) ++ Lib.strCells ⟨(textL (xl, xd)).toArray⟩ = Lib.byteCells (L ++ slc s.data.toList n f ++ textL (xl, xd)) := by rw [cells_snoc]
              have L1 := Lib.hid l1
              have L2 := Lib.hid l2
              have L3 := Lib.hid l3
              have s1 : (L ++ slc s.data.toList n f).length ≤ 121000000 := by have := slc_len s.data.toList n f; rw [size_list] at this; rw [List.length_append]; omega
              have HC := Lib.hid (fun W => SameA_any ⟨lo.toArray⟩ ⟨dm.toArray⟩ ⟨xl.toArray⟩ ⟨xd.toArray⟩ (by show lo.length ≤ _; omega) (by show dm.length ≤ _; omega) (by show xl.length ≤ _; omega) (by show xd.length ≤ _; omega) W)
              have HORD := Lib.hid (show ordS ⟨lo.toArray⟩ ⟨dm.toArray⟩ ⟨xl.toArray⟩ ⟨xd.toArray⟩ = ordL (normL (lo, dm)) (normL (xl, xd)) from rfl)
              generalize ordS ⟨lo.toArray⟩ ⟨dm.toArray⟩ ⟨xl.toArray⟩ ⟨xd.toArray⟩ = r at HC HORD
              obtain ⟨bs, hbs⟩ : ∃ bs, bs = decide (r = 0) := ⟨_, rfl⟩
              rw [← hbs] at HC
              have HBS := Lib.hid hbs
              clear hbs
              have HT := Lib.hid (fun W (hE : Env W) => Text_any (xl, xd) (by show xl.length ≤ _; omega) (by show xd.length ≤ _; omega) W hE)
              simp only [addrV] at HT
              have htl : (textL (xl, xd)).length ≤ 3003 := by have := text_len_le (xl, xd); simp only at this; omega
              have HTL := Lib.hid htl
              clear hst l1 l2 l3 hmem h1 h2 h3 htl
              generalize hlo : (⟨lo.toArray⟩ : ByteArray) = Xl at c2 HC
              generalize hdm : (⟨dm.toArray⟩ : ByteArray) = Xd at c3 HC
              have hC := SpBlk.made wr (f : Int) (t : Int) Xl Xd
              have hbN := alloc_below wr (.cells #[.int .i64 (f : Int), .int .i64 (t : Int), .string Xl, .string Xd] 32)
              have HBU2 := Lib.hid (HBU.out.alloc (.cells #[.int .i64 (f : Int), .int .i64 (t : Int), .string Xl, .string Xd] 32))
              have HCb := Lib.hid hC
              have HBN := Lib.hid hbN
              have hcell := hC.cells
              have hsz2 : (wr.alloc (.cells #[.int .i64 (f : Int), .int .i64 (t : Int), .string Xl, .string Xd] 32)).heap.size = wr.heap.size + 1 := World.size_alloc _ _
              have HSZ2 := Lib.hid hsz2
              obtain ⟨y0, y1, y2, y3⟩ := hcell
              have i7 : w3.heap.size ≤ (wr.alloc (.cells #[.int .i64 (f : Int), .int .i64 (t : Int), .string Xl, .string Xd] 32)).heap.size := by rw [hsz2]; exact Nat.le_succ_of_le HSZ.out
              have hCne : wr.heap.size ≠ w3.heap.size := by
                have h := builder_lt HBU.out
                omega
              have HCN := Lib.hid hCne
              have hlen1 : (Lib.byteCells L).length + (s.extract n f).size ≤ 140737488355328 := by rw [Lib.byteCells_length, ByteArray.size_extract]; omega
              have HW1 := Lib.hid (Tryz.WriteString_k w3.heap.size w3.heap.size _ (s.extract n f) _ HBU2.out hlen1 i7)
              clear hC hbN hsz2 hlo hdm hCne hlen1
              go_wp2_with fail
              generalize hwx : wr.alloc (.cells #[.int .i64 (f : Int), .int .i64 (t : Int), .string Xl, .string Xd] 32) = wx at *
              have I7 := Lib.hid i7
              clear hwx i7
              refine HW1.out.mono ?_
              rintro e w4 ⟨rfl, hat4, hb4, hk4⟩
              have HAT4 := Lib.hid hat4
              have hw4 : Below w3.heap.size w3 w4 := (HB2.out.trans (HBN.out.mono HSZ.out)).trans hb4
              have HB4 := Lib.hid hw4
              have hC4 := HCb.out.kept hk4 HCN.out
              have HC4 := Lib.hid hC4
              have hB4 : Lib.IsBuilderF 82 5 w3.heap.size w3.heap.size (Lib.byteCells (L ++ slc s.data.toList n f)) w4 := by rw [← L1.out]; exact .inr hat4
              have HBD4 := Lib.hid hB4
              have hS4 := HHAD.out.below hw4
              obtain ⟨g0, g1⟩ := hS4
              obtain ⟨z0, z1, z2, z3⟩ := hC4.cells
              have HLT1 := Lib.hid hC4.lt
              have HLT2 := Lib.hid (World.block_lt_of_cell? _ _ g0)
              have HSZ4 := Lib.hid (Nat.le_of_lt (builder_lt hB4))
              have hS : w4.cell? ⟨wr.heap.size, 2, none⟩ = some (.string Xl) ∧ w4.cell? ⟨wr.heap.size, 3, none⟩ = some (.string Xd) ∧ w4.cell? ⟨bb, k * 2, none⟩ = some (.string ⟨xl.toArray⟩) ∧ w4.cell? ⟨bb, k * 2 + 1, none⟩ = some (.string ⟨xd.toArray⟩) := ⟨z2, z3, g0, g1⟩
              clear hat4 hb4 hk4 hw4 hC4 hB4 y0 y1 y2 y3 c0 c1 c2 c3
              go_wp2_with fail
              go_region_held3 (fun W => W.cell? ⟨wr.heap.size, 2, none⟩ = some (.string Xl) ∧ W.cell? ⟨wr.heap.size, 3, none⟩ = some (.string Xd) ∧ W.cell? ⟨bb, k * 2, none⟩ = some (.string ⟨xl.toArray⟩) ∧ W.cell? ⟨bb, k * 2 + 1, none⟩ = some (.string ⟨xd.toArray⟩))
                (first | exact hS7 | exact hS | go_keep)
                (first | ((with_reducible refine (HC.out _).mono ?_); rintro e w7 ⟨rfl, hb7⟩; have hb7' := (drew_below w4).trans hb7; have hS7 : w7.cell? ⟨wr.heap.size, 2, none⟩ = some (.string Xl) ∧ w7.cell? ⟨wr.heap.size, 3, none⟩ = some (.string Xd) ∧ w7.cell? ⟨bb, k * 2, none⟩ = some (.string ⟨xl.toArray⟩) ∧ w7.cell? ⟨bb, k * 2 + 1, none⟩ = some (.string ⟨xd.toArray⟩) := ⟨(hb7'.cell (p := ⟨wr.heap.size, 2, none⟩) HLT1.out).trans hS.1, (hb7'.cell (p := ⟨wr.heap.size, 3, none⟩) HLT1.out).trans hS.2.1, (hb7'.cell (p := ⟨bb, k * 2, none⟩) HLT2.out).trans hS.2.2.1, (hb7'.cell (p := ⟨bb, k * 2 + 1, none⟩) HLT2.out).trans hS.2.2.2⟩))
              have HB7 := Lib.hid (HB4.out.trans (hb7'.mono HSZ4.out))
              have HBD7 := Lib.hid (builder_keeps HBD4.out hb7')
              have HC7 := Lib.hid (HC4.out.below hb7')
              have HSZ7 := Lib.hid (Nat.le_of_lt (builder_lt HBD7.out))
              clear hb7 hb7' hS hS7 z0 z1 z2 z3 g0 g1
              cases bs with
              | true =>
                have hr0 : r = 0 := by simpa using HBS.out.symm
                have HR0 := Lib.hid (show ordL (normL (lo, dm)) (normL (xl, xd)) = 0 by rw [← HORD.out]; exact hr0)
                have hlen2 : (Lib.byteCells (L ++ slc s.data.toList n f)).length + (s.extract f t).size ≤ 140737488355328 := by rw [Lib.byteCells_length, ByteArray.size_extract]; omega
                have HW2 := Lib.hid (Tryz.WriteString_k w3.heap.size w3.heap.size _ (s.extract f t) _ HBD7.out hlen2 HSZ7.out)
                obtain ⟨z0, z1, z2, z3⟩ := HC7.out.cells
                clear hr0 hlen2
                go_wp2_with fail
                refine HW2.out.mono ?_
                rintro e w8 ⟨rfl, hat8, hb8, -⟩
                have HAT8 := Lib.hid hat8
                have HB8 := Lib.hid (HB7.out.trans hb8)
                have hB8 : Lib.IsBuilderF 82 5 w3.heap.size w3.heap.size (Lib.byteCells (L ++ slc s.data.toList n f ++ slc s.data.toList f t)) w8 := by rw [← L2.out]; exact .inr hat8
                have HBD8 := Lib.hid hB8
                clear hat8 hb8 hB8 z0 z1 z2 z3
                go_wp2_with fail
                go_roundg (A.length - (k + 1))
                case rel =>
                  refine ⟨k + 1, t, _, rfl, by go_num, ?_, by omega, rfl, HB8.out, Nat.le_of_lt (builder_lt HBD8.out), HBD8.out⟩
                  rw [HST.out, if_pos HR0.out]
                case measure => have := HG2.out; omega
              | false =>
                have hr0 : ¬ r = 0 := by simpa using HBS.out.symm
                have HR0 := Lib.hid (show ¬ ordL (normL (lo, dm)) (normL (xl, xd)) = 0 by rw [← HORD.out]; exact hr0)
                have had7 := HHAD.out.below HB7.out
                obtain ⟨g0, g1⟩ := had7
                have hlen2 : (Lib.byteCells (L ++ slc s.data.toList n f)).length + (⟨(textL (xl, xd)).toArray⟩ : ByteArray).size ≤ 140737488355328 := by rw [Lib.byteCells_length]; have := HTL.out; show _ + (textL (xl, xd)).length ≤ _; omega
                have HW2 := Lib.hid (fun W h1 h2 => Tryz.WriteString_k w3.heap.size w3.heap.size _ ⟨(textL (xl, xd)).toArray⟩ W h1 hlen2 h2)
                have HE7 := Lib.hid (HE.out.below (HBR.out.trans (HB7.out.mono HBR.out.size)))
                rw [L3.out] at HW2
                generalize (⟨(textL (xl, xd)).toArray⟩ : ByteArray) = T at HT HW2 hlen2
                clear hr0 hlen2
                go_wp2_with fail
                refine (HT.out _ HE7.out).mono ?_
                rintro e w8 ⟨rfl, hb8⟩
                have HB8 := Lib.hid (HB7.out.trans (hb8.mono HSZ7.out))
                have HBD8 := Lib.hid (builder_keeps HBD7.out hb8)
                have HSZ8 := Lib.hid (Nat.le_of_lt (builder_lt HBD8.out))
                clear hb8 g0 g1
                go_wp2_with fail
                refine (HW2.out _ HBD8.out HSZ8.out).mono ?_
                rintro e w9 ⟨rfl, hat9, hb9, -⟩
                have HB9 := Lib.hid (HB8.out.trans hb9)
                have HAT9 := Lib.hid hat9
                clear hat9 hb9
                go_wp2_with fail
                go_roundg (A.length - (k + 1))
                case rel =>
                  refine ⟨k + 1, t, _, rfl, by go_num, ?_, by omega, rfl, HB9.out, Nat.le_of_lt (builder_lt (.inr HAT9.out)), .inr HAT9.out⟩
                  rw [HST.out, if_neg HR0.out]
                case measure => have := HG2.out; omega
            · have hge : ¬ (k : Int) < (A.length : Int) := by omega
              obtain rfl : k = A.length := by omega
              have hP := HP.out
              rw [HUP.out] at hP
              simp only at hP
              injection hP with q1 q2
              subst q2
              have i1 : (n : Int) ≤ (s.size : Int) := by have := HAT.out; omega
              have i0 : (0 : Int) ≤ (n : Int) := by omega
              obtain ⟨Z0, hZ⟩ : ∃ Z0 : ByteArray, Z0 = ⟨L.toArray⟩ := ⟨_, rfl⟩
              obtain ⟨Z, hZ2⟩ : ∃ Z : ByteArray, Z = ⟨r1.toArray⟩ := ⟨_, rfl⟩
              have hz : Z = Z0 ++ s.extract n s.size := by
                apply ByteArray.ext
                rw [hZ2, hZ, q1]
                apply Array.ext'
                have e2 : slc s.data.toList n s.size = s.data.toList.drop n := by unfold slc; rw [List.take_of_length_le (by simp)]
                rw [ByteArray.data_append, Array.toList_append, ext_list s n s.size (Nat.le_refl _), e2]
              have a1 := add_run hz (by rw [hZ, ByteArray.size_extract]; show L.length + _ ≤ _; omega)
              have hstr := Tryz.Builder_String_any_k w3.heap.size w3.heap.size L wr.drew HBU.out HSZ.out
              rw [← hZ] at hstr
              have HSTR := Lib.hid hstr
              have HZ := Lib.hid hZ2
              clear hstr hz hZ hZ2 q1
              go_wp2_with fail
              go_region_held3 (fun W => True) (exact trivial) (first | ((with_reducible refine HSTR.out.mono ?_); rintro e w5 ⟨rfl, -, hb5, -⟩))
              go_wp2
              go_ret2
              exact ⟨by rw [← HZ.out]; rfl, (HBW.out.trans ((drew_below wr).mono HBW.out.size)).trans (hb5.mono HBR.out.size)⟩
        · have hnn : ((l.length : Int) != (A.length : Int)) = true := by rw [bne_iff_ne]; omega
          have hP := HP.out
          rw [if_pos hn] at hP
          injection hP with q1 q2
          subst q1; subst q2
          clear hn
          go_wp2
          go_ret2
          exact ⟨rfl, HBR.out⟩
      · have he0 : ((ea : Int) == 0) = false := by rw [beq_eq_false_iff_ne]; omega
        have he1 : ((ea : Int) != 0) = true := by rw [bne_iff_ne]; omega
        have hP := HP.out
        rw [if_pos h0] at hP
        injection hP with q1 q2
        subst q1; subst q2
        clear h0
        go_wp2
        go_ret2
        exact ⟨rfl, HBR.out⟩
end Go.Proofs.YtffngbjnbigipaaGreatDoor
