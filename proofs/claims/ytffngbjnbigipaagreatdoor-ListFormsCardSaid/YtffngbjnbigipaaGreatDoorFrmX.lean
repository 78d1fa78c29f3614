/- Several texts joined into one (a claim has a limit of files). -/
import Derived.Test.YtffngbjnbigipaaGreatDoorPutA
import Derived.Shelf.Strings.MapAny
import Derived.Lib.TrimU
import Derived.Test.YtffngbjnbigipaaGreatDoorTSplit
import Derived.Shelf.Strings.OnBuilder
import Derived.Laws.BitsAllLaws
import Derived.Test.YtffngbjnbigipaaGreatDoorFrmB
import Derived.Test.YtffngbjnbigipaaGreatDoorProg
import Derived.Shelf.Strings.BuilderK
import Derived.Test.YtffngbjnbigipaaGreatDoorOrd
import Derived.Test.YtffngbjnbigipaaGreatDoorShelf
import Derived.Deep.RegionHeld3
/- strings.Map in this seat's numbers, the closure of made: what made makes of an address may be. -/
namespace Go.Proofs
set_option maxRecDepth 100000
def Tryz.lays230_ren : Go.Shelf.Ren := ⟨fun | 118 => 105 | 165 => 40 | 166 => 41 | 167 => 65 | 168 => 106 | 169 => 43 | 197 => 70 | 230 => 58 | 240 => 79 | 241 => 80 | 242 => 147 | 260 => 113 | 270 => 107 | 276 => 127 | 277 => 128 | 278 => 176 | n => n, fun | 0 => 0 | 3 => 3 | 4 => 4 | 5 => 5 | 9 => 9 | 20 => 20 | 21 => 21 | 37 => 80 | 46 => 76 | 51 => 56 | 70 => 79 | 72 => 82 | 75 => 85 | 76 => 86 | 80 => 89 | 105 => 107 | 107 => 101 | 119 => 161 | 127 => 116 | 138 => 163 | 139 => 164 | 164 => 146 | n => n, fun | 3 => 4 | 4 => 5 | n => n⟩
theorem Tryz.lays230 : Go.Proofs.Lays.n230 Tryz.prog Tryz.lays230_ren := {
  mixed := by kernel_rfl
  f118 := Tryz.func105.trans (congrArg some (by kernel_rfl))
  f165 := Tryz.func40.trans (congrArg some (by kernel_rfl))
  f166 := Tryz.func41.trans (congrArg some (by kernel_rfl))
  f167 := Tryz.func65.trans (congrArg some (by kernel_rfl))
  f168 := Tryz.func106.trans (congrArg some (by kernel_rfl))
  f169 := Tryz.func43.trans (congrArg some (by kernel_rfl))
  f197 := Tryz.func70.trans (congrArg some (by kernel_rfl))
  f230 := Tryz.func58.trans (congrArg some (by kernel_rfl))
  f240 := Tryz.func79.trans (congrArg some (by kernel_rfl))
  f241 := Tryz.func80.trans (congrArg some (by kernel_rfl))
  f242 := Tryz.func147.trans (congrArg some (by kernel_rfl))
  f260 := Tryz.func113.trans (congrArg some (by kernel_rfl))
  f270 := Tryz.func107.trans (congrArg some (by kernel_rfl))
  f276 := Tryz.func127.trans (congrArg some (by kernel_rfl))
  f277 := Tryz.func128.trans (congrArg some (by kernel_rfl))
  f278 := Tryz.func176.trans (congrArg some (by kernel_rfl))
  t0 := Tryz.underlying0
  a0 := Tryz.isAgg0
  z0 := Tryz.sizeOf0
  v0 := Tryz.zeroValue0
  t3 := Tryz.underlying3
  a3 := Tryz.isAgg3
  z3 := Tryz.sizeOf3
  v3 := Tryz.zeroValue3
  t4 := Tryz.underlying4
  a4 := Tryz.isAgg4
  z4 := Tryz.sizeOf4
  v4 := Tryz.zeroValue4
  t5 := Tryz.underlying5
  a5 := Tryz.isAgg5
  z5 := Tryz.sizeOf5
  v5 := Tryz.zeroValue5
  t9 := Tryz.underlying9
  a9 := Tryz.isAgg9
  z9 := Tryz.sizeOf9
  v9 := Tryz.zeroValue9
  t20 := Tryz.underlying20
  a20 := Tryz.isAgg20
  z20 := Tryz.sizeOf20
  v20 := Tryz.zeroValue20
  t21 := Tryz.underlying21
  a21 := Tryz.isAgg21
  z21 := Tryz.sizeOf21
  v21 := Tryz.zeroValue21
  t37 := Tryz.underlying80
  a37 := Tryz.isAgg80
  z37 := Tryz.sizeOf80
  v37 := Tryz.zeroValue80
  t46 := Tryz.underlying76
  a46 := Tryz.isAgg76
  z46 := Tryz.sizeOf76
  v46 := Tryz.zeroValue76
  t51 := Tryz.underlying56
  a51 := Tryz.isAgg56
  z51 := Tryz.sizeOf56
  v51 := Tryz.zeroValue56
  t70 := Tryz.underlying79
  a70 := Tryz.isAgg79
  z70 := Tryz.sizeOf79
  v70 := Tryz.zeroValue79
  t72 := Tryz.underlying82
  a72 := Tryz.isAgg82
  z72 := Tryz.sizeOf82
  v72 := Tryz.zeroValue82
  t75 := Tryz.underlying85
  a75 := Tryz.isAgg85
  z75 := Tryz.sizeOf85
  v75 := Tryz.zeroValue85
  t76 := Tryz.underlying86
  a76 := Tryz.isAgg86
  z76 := Tryz.sizeOf86
  v76 := Tryz.zeroValue86
  t105 := Tryz.underlying107
  a105 := Tryz.isAgg107
  z105 := Tryz.sizeOf107
  v105 := Tryz.zeroValue107
  t107 := Tryz.underlying101
  a107 := Tryz.isAgg101
  z107 := Tryz.sizeOf101
  v107 := Tryz.zeroValue101
  t119 := Tryz.underlying161
  a119 := Tryz.isAgg161
  z119 := Tryz.sizeOf161
  t127 := Tryz.underlying116
  a127 := Tryz.isAgg116
  z127 := Tryz.sizeOf116
  v127 := Tryz.zeroValue116
  t138 := Tryz.underlying163
  a138 := Tryz.isAgg163
  z138 := Tryz.sizeOf163
  v138 := Tryz.zeroValue163
  t139 := Tryz.underlying164
  a139 := Tryz.isAgg164
  z139 := Tryz.sizeOf164
  v139 := Tryz.zeroValue164
  t164 := Tryz.underlying146
  a164 := Tryz.isAgg146
  z164 := Tryz.sizeOf146
  v164 := Tryz.zeroValue146
  g3 := by kernel_rfl
  g4 := by kernel_rfl }
theorem Tryz.Builder_Extra_230 : Builder.Extra Tryz.prog Tryz.lays230_ren := {
  sizeBuilder := by kernel_rfl
  liesBuilder := by kernel_rfl
  t5 := Tryz.underlying5
  a5 := Tryz.isAgg5
  z5 := Tryz.sizeOf5
  v5 := Tryz.zeroValue5
  infoByte := by kernel_rfl
  cellsByte := by kernel_rfl
  sizeByte := by kernel_rfl
  neB5 := by decide }
end Go.Proofs
namespace Go.Proofs.YtffngbjnbigipaaGreatDoor
open Go.RowKit Go.Lib Go.Proofs
set_option linter.unusedSimpArgs false
set_option linter.unusedVariables false
set_option linter.unnecessarySimpa false
set_option maxRecDepth 100000

/-- what made makes of a rune. -/
def fM (x : Int) : Int := if x < 32 ∨ 126 < x then 120 else x
theorem clo59 (x : Nat) (w : World) (hx : x ≤ 1114111) : Calls Tryz.prog 59 #[.int .i32 (x : Int)] w fun e w' => e = .returned (.int .i32 (fM x)) ∧ ∃ q, w' = w.drewN q := by
  by_cases h1 : (x : Int) < 32
  · have hf : fM x = 120 := by unfold fM; rw [if_pos (Or.inl h1)]
    have hd : decide ((x : Int) < 32) = true := by simpa using h1
    rw [hf]
    go_enter Tryz.func59, Tryz.ntmps59
    go_wp2
    go_ret
    exact ⟨rfl, 0, rfl⟩
  · have hd : decide ((x : Int) < 32) = false := by simpa using h1
    by_cases h2 : 126 < (x : Int)
    · have hf : fM x = 120 := by unfold fM; rw [if_pos (Or.inr h2)]
      have hd2 : decide ((x : Int) > 126) = true := by simpa using h2
      rw [hf]
      go_enter Tryz.func59, Tryz.ntmps59
      go_wp2
      go_ret
      exact ⟨rfl, 0, rfl⟩
    · have hf : fM x = x := by unfold fM; rw [if_neg (by omega)]
      have hd2 : decide ((x : Int) > 126) = false := by simpa using h2
      rw [hf]
      go_enter Tryz.func59, Tryz.ntmps59
      go_wp2
      go_ret
      exact ⟨rfl, 0, rfl⟩
theorem Map_any (s : ByteArray) (w : World) (hs : s.size < 35184372088832) (hT : Lib.Utf8Tabs 4 5 w) :
    Calls Tryz.prog 58 #[.func (.func 59) #[] #[], .string s] w fun e w' => e = .returned (.string ⟨(Lib.mapD fM s.data.toList).toArray⟩) ∧ Below w.heap.size w w' :=
  Any.strings_Map_runes Tryz.lays230 Tryz.Builder_Extra_230 59 #[] (enters_of Tryz.func59 (by kernel_rfl) rfl) fM s w hs (fun W x hx _ => clo59 x W hx)
    (fun x hx => by unfold fM; split <;> omega) hT
theorem mapD_plain : ∀ (n : Nat) (l : List UInt8), l.length ≤ n → (mapD fM l).length ≤ l.length ∧ plainL (mapD fM l) = true
  | n, [], _ => by rw [mapD_nil]; exact ⟨Nat.le_refl _, rfl⟩
  | 0, b :: l, h => by simp at h
  | n + 1, b :: l, h => by
    have hne : b :: l ≠ [] := by simp
    have hw := decodeL_width (b :: l)
    have hl := decodeL_le (b :: l) hne
    have hr := decodeL_rune (b :: l)
    rw [mapD_step fM (b :: l) hne]
    generalize decodeL (b :: l) = d at hw hl hr ⊢
    have hf : 32 ≤ fM d.1 ∧ fM d.1 ≤ 126 := by unfold fM; split <;> omega
    have hd : ((b :: l).drop d.2).length ≤ n := by simp at h ⊢; omega
    obtain ⟨h1, h2⟩ := mapD_plain n ((b :: l).drop d.2) hd
    have he : encodeRune (fM d.1) = [(fM d.1).toNat.toUInt8] := by
      unfold encodeRune
      rw [encodeRuneZ_one (by omega) (by omega)]
      rfl
    rw [if_pos (by omega), he]
    rw [List.length_drop] at h1
    refine ⟨by simp only [List.length_append, List.length_cons, List.length_nil] at h1 hl ⊢; omega, ?_⟩
    unfold plainL at h2 ⊢
    rw [List.all_append, h2, Bool.and_true]
    simp only [List.all_cons, List.all_nil, Bool.and_true]
    generalize fM d.1 = z at hf
    obtain ⟨z, rfl⟩ : ∃ n : Nat, z = n := ⟨z.toNat, by omega⟩
    have hz : z < 127 ∧ 32 ≤ z := by omega
    have hk : ((z : Int).toNat.toUInt8).toNat = z := by
      simp only [Int.toNat_natCast, Nat.toUInt8, UInt8.toNat_ofNat']
      omega
    rw [hk]
    unfold plainB
    simp
    omega
end Go.Proofs.YtffngbjnbigipaaGreatDoor

/- made: addresses that may be, made of any. -/
namespace Go.Proofs.YtffngbjnbigipaaGreatDoor
open Go.RowKit Go.Lib Go.Proofs
set_option linter.unusedSimpArgs false
set_option linter.unusedVariables false
set_option linter.unnecessarySimpa false
set_option maxRecDepth 100000

theorem tabs_below {g1 g2 : Nat} {w W : World} (h : Lib.Utf8Tabs g1 g2 w) (hb : Below w.heap.size w W) : Lib.Utf8Tabs g1 g2 W :=
  ⟨fun c hc => (hb.cell (World.block_lt_of_cell? w _ (h.1 c hc))).trans (h.1 c hc),
   fun i hi => ⟨(hb.cell (World.block_lt_of_cell? w _ (h.2 i hi).1)).trans (h.2 i hi).1, (hb.cell (World.block_lt_of_cell? w _ (h.2 i hi).2)).trans (h.2 i hi).2⟩⟩
theorem own_below {B t z n : Nat} {v : Value} {xs : List Value} {w W : World} (h : w.ownsRow B t z v n xs) (hb : Below w.heap.size w W) : W.ownsRow B t z v n xs := by
  refine ⟨h.1, ?_⟩
  rcases h.2 with hn | ⟨g, cap, cur, rfl, hg, hgg, rest⟩
  · exact .inl hn
  · refine .inr ⟨g, cap, cur, rfl, hg, ?_, rest⟩
    rw [hb.block g (Array.getElem?_eq_some_iff.1 hgg).1]
    exact hgg
theorem own_form2 {w : World} {B t n : Nat} {v : Value} {xs : List Value} (h : w.ownsRow B t 2 v n xs) : ∃ q c, v = .slice q n c := by
  obtain ⟨_, ⟨rfl, h0⟩ | ⟨g, cap, cur, rfl, _⟩⟩ := h
  · exact ⟨none, 0, by rw [h0]⟩
  · exact ⟨_, _, rfl⟩
theorem app_run {ops : Array Oper} {rest : List Oper} {o : Oper} {a : Act} {Q : Exit → Act → World → Prop} {w : World} (hgd : o.guard = none) (s x : Operand) (t : TypeId)
    (ho : o.op = .call { callee := .builtin .append, args := #[s, x], argTypes := #[t, t] }) (hty : o.type = t) (v xv v' : Value) (w' : World) (hs : a.eval s = v) (hx : a.eval x = xv)
    (hrun : (Builtin.append_ #[t, t] t #[v, xv]).run Tryz.prog w = .ok v' w') (h : wpList Tryz.prog ops Q rest (a.put o.dst v') w') : wpList Tryz.prog ops Q (o :: rest) a w := by
  refine wpList_plain hgd fun K hK => ?_
  unfold Oper.wp execOp
  simp only [ho, hty, resolve, invoke, builtin, Sem.run_bind, Sem.run_pure, Result.andThen_ok, List.map_toArray, List.map_cons, List.map_nil, hs, hx, hrun]
  exact hK _ _ h
def domOf (r : Nat) : List UInt8 := if r = 0 then [97, 46, 101, 120, 97, 109, 112, 108, 101] else if r = 1 then [66, 46, 69, 120, 97, 109, 112, 108, 101] else if r = 2 then [91, 49, 48, 46, 48, 46, 48, 46, 49, 93] else [120]
def cut14 (X : ByteArray) : ByteArray := X.extract 0 (min (X.size : Int) 14).toNat
def madeA (X Y : ByteArray) : Ad := (117 :: mapD fM (cut14 X).data.toList, domOf (Y.size % 4))
/-- an address of the kind that made makes. -/
def Made (a : Ad) : Prop := mayL a = true ∧ a.1.length ≤ 15 ∧ a.2.length ≤ 10
theorem cut14_size (X : ByteArray) : (cut14 X).size ≤ 14 := by unfold cut14; simp; omega
theorem made_ok (X Y : ByteArray) : Made (madeA X Y) := by
  obtain ⟨h1, h2⟩ := mapD_plain _ (cut14 X).data.toList (Nat.le_refl _)
  have h3 := cut14_size X
  have h4 : (cut14 X).data.toList.length = (cut14 X).size := by simp
  rw [h4] at h1
  have hd : domL (domOf (Y.size % 4)) = 0 ∧ (domOf (Y.size % 4)).length ≤ 10 := by
    have : Y.size % 4 < 4 := Nat.mod_lt _ (by decide)
    generalize Y.size % 4 = r at this
    match r, this with
    | 0, _ => decide +kernel
    | 1, _ => decide +kernel
    | 2, _ => decide +kernel
    | 3, _ => decide +kernel
  unfold Made madeA
  refine ⟨?_, by simp; omega, hd.2⟩
  unfold mayL
  simp only [List.isEmpty_cons, Bool.not_false, Bool.true_and, List.length_cons, Bool.and_eq_true, decide_eq_true_eq]
  refine ⟨⟨by omega, ?_⟩, hd.1⟩
  unfold plainL at h2 ⊢
  rw [List.all_cons, h2]
  decide
def MaRel (w : World) (most m : Nat) (g : Nat) (v5 v11 : Value) (W : World) : Prop :=
  ∃ (k : Nat) (l : List Ad) (v : Value), v11 = .int .i64 (k : Int) ∧ v = v5 ∧ k ≤ m ∧ k ≤ most ∧ g = m - k ∧ l.length = k ∧ (∀ a ∈ l, Made a) ∧ W.ownsRow w.heap.size 30 2 v l.length (adsC l) ∧ Below w.heap.size w W ∧ w.heap.size ≤ W.heap.size
set_option maxHeartbeats 8000000 in
theorem made_any (v : Value) (m most : Nat) (X Y : Nat → ByteArray) (w : World) (h : InRow w v m X Y) (hm : m ≤ 9223372036854775807) (hmost : most ≤ 1000) (hT : Lib.Utf8Tabs 4 5 w) :
    Calls Tryz.prog 26 #[v, .int .i64 (most : Int)] w fun e w' => ∃ v', e = .returned v' ∧ ∃ l, ARow w' v' l ∧ l.length = min m most ∧ (∀ a ∈ l, Made a) ∧ Below w.heap.size w w' := by
  obtain ⟨p, cap, rfl, hin⟩ := h
  have HIN := Lib.hid hin
  have HT := Lib.hid hT
  clear hin hT
  go_enter Tryz.func26, Tryz.ntmps26
  go_wp2_with fail
  go_loopg [5, 11] m (fun g v5 v11 W => MaRel w most m g v5 v11 W ∧ True)
  case atStart => exact ⟨⟨0, [], _, rfl, rfl, Nat.zero_le _, Nat.zero_le _, rfl, rfl, fun a ha => (by cases ha), World.ownsRow_nil _ _ _ _, Below.refl _ _, Nat.le_refl _⟩, trivial⟩
  case round =>
    obtain ⟨⟨k, l, v5, rfl, rfl, hk, hkmost, hg, hlk, hparts, hown, hb, hsz⟩, -⟩ := hrel
    have HG := Lib.hid hg
    have HB := Lib.hid hb
    have HL := Lib.hid hlk
    have HP := Lib.hid hparts
    have HO := Lib.hid hown
    have HSZ := Lib.hid hsz
    clear hg hb hlk hparts hown hsz
    by_cases hlt : k < m
    · have hk1 : (k : Int) < (m : Int) := by omega
      obtain ⟨b, o, rfl, hin⟩ := HIN.out.resolve_left (by omega)
      obtain ⟨c0, c1, x1, y1⟩ := hin k hlt
      have hlb : b < w.heap.size := World.block_lt_of_cell? w _ c0
      have d0 : wr.cell? ⟨b, o + k * 2, none⟩ = some (.string (X k)) := (HB.out.cell (p := ⟨b, o + k * 2, none⟩) hlb).trans c0
      have d1 : wr.cell? ⟨b, o + k * 2 + 1, none⟩ = some (.string (Y k)) := (HB.out.cell (p := ⟨b, o + k * 2 + 1, none⟩) hlb).trans c1
      clear hin c0 c1
      have HXY := Lib.hid (made_ok (X k) (Y k))
      generalize X k = x at d0 x1 HXY
      generalize Y k = y at d1 y1 HXY
      have hk0 : (0 : Int) ≤ (k : Int) := by omega
      have ht1 := Two.made wr (.string x) (.string y) 30
      have hb1 := alloc_below wr (.cells #[.string x, .string y] 30)
      by_cases hkm : k < most
      · have hk2 : ((k : Int) == (most : Int)) = false := by simp; omega
        have hwk : IntKind.i64.wrap ((k : Int) + 1) = (k : Int) + 1 := by rw [IntKind.wrap_i64]; omega
        have m0 : (0 : Int) ≤ min (x.size : Int) 14 := by omega
        have m1 : min (x.size : Int) 14 ≤ (x.size : Int) := by omega
        generalize hw1 : wr.alloc (.cells #[.string x, .string y] 30) = w1 at ht1 hb1
        have hb01 : Below w.heap.size w w1 := HB.out.trans (hb1.mono HSZ.out)
        have HM := Lib.hid (Map_any (cut14 x) w1 (by have := cut14_size x; omega) (tabs_below HT.out hb01))
        have HT1 := Lib.hid ht1
        obtain ⟨-, c0, c1, f0, f1⟩ := ht1
        unfold cut14 at HM
        generalize hz : (⟨(Lib.mapD fM (x.extract 0 (min (x.size : Int) 14).toNat).data.toList).toArray⟩ : ByteArray) = z at HM
        go_wp2_with fail
        refine HM.out.mono ?_
        rintro e w2 ⟨rfl, hb2⟩
        obtain ⟨-, c0, c1, f0, f1⟩ := HT1.out.below hb2
        have hb02 : Below w.heap.size w w2 := hb01.trans (hb2.mono hb01.size)
        have hzl : z.data.toList = mapD fM (cut14 x).data.toList := by rw [← hz]; rfl
        have hzs : z.size ≤ 14 := by
          have h1 := (mapD_plain _ (cut14 x).data.toList (Nat.le_refl _)).1
          have h2 := cut14_size x
          have h3 : z.size = z.data.toList.length := by simp
          have h4 : (cut14 x).data.toList.length = (cut14 x).size := by simp
          rw [hzl] at h3
          omega
        obtain ⟨z1, hz1⟩ : ∃ z1, z1 = (⟨#[117]⟩ : ByteArray) ++ z := ⟨_, rfl⟩
        have hadd := add_run hz1 (by have h1 : (⟨#[117]⟩ : ByteArray).size = 1 := rfl; omega)
        have hz1l : z1.data.toList = 117 :: mapD fM (cut14 x).data.toList := by rw [hz1, ← hzl]; simp
        have HZ := Lib.hid hz1l
        clear hz hz1 hzl hzs hz1l
        have ha3 := alloc_below w2 (.cells #[.string ⟨#[97, 46, 101, 120, 97, 109, 112, 108, 101]⟩, .string ⟨#[66, 46, 69, 120, 97, 109, 112, 108, 101]⟩, .string ⟨#[91, 49, 48, 46, 48, 46, 48, 46, 49, 93]⟩, .string ⟨#[120]⟩] 9)
        have hn3 := heap_alloc_new w2 (.cells #[.string ⟨#[97, 46, 101, 120, 97, 109, 112, 108, 101]⟩, .string ⟨#[66, 46, 69, 120, 97, 109, 112, 108, 101]⟩, .string ⟨#[91, 49, 48, 46, 48, 46, 48, 46, 49, 93]⟩, .string ⟨#[120]⟩] 9)
        generalize hw3 : w2.alloc (.cells #[.string ⟨#[97, 46, 101, 120, 97, 109, 112, 108, 101]⟩, .string ⟨#[66, 46, 69, 120, 97, 109, 112, 108, 101]⟩, .string ⟨#[91, 49, 48, 46, 48, 46, 48, 46, 49, 93]⟩, .string ⟨#[120]⟩] 9) = w3 at ha3 hn3
        have hsz2 : w.heap.size ≤ w2.heap.size := Nat.le_trans HSZ.out (Nat.le_trans hb1.size hb2.size)
        have hb03 : Below w.heap.size w w3 := hb02.trans (ha3.mono hsz2)
        have hlt1 : wr.heap.size < w2.heap.size := Nat.lt_of_lt_of_le HT1.out.lt hb2.size
        have e1 : w3.cell? ⟨wr.heap.size, 1, none⟩ = some (.string y) := (ha3.cell (p := ⟨wr.heap.size, 1, none⟩) hlt1).trans c1
        have hcr : w3.cell? ⟨w2.heap.size, y.size % 4, none⟩ = some (.string ⟨(domOf (y.size % 4)).toArray⟩) := by
          have hr4 : y.size % 4 < 4 := Nat.mod_lt _ (by decide)
          generalize y.size % 4 = r at hr4
          match r, hr4 with
          | 0, _ => simp [World.cell?, hn3, domOf]
          | 1, _ => simp [World.cell?, hn3, domOf]
          | 2, _ => simp [World.cell?, hn3, domOf]
          | 3, _ => simp [World.cell?, hn3, domOf]
        have hri0 : (0 : Int) ≤ (y.size : Int) % 4 := by omega
        have hri : (y.size : Int) % 4 < 4 := by omega
        have hsz3 : w.heap.size ≤ w3.heap.size := Nat.le_trans hsz2 ha3.size
        have hbr3 : Below wr.heap.size wr w3 := (hb1.trans (hb2.mono hb1.size)).trans (ha3.mono (Nat.le_trans hb1.size hb2.size))
        have ho3 := own_below HO.out hbr3
        obtain ⟨d, hd⟩ : ∃ d : ByteArray, d = ⟨(domOf (y.size % 4)).toArray⟩ := ⟨_, rfl⟩
        rw [← hd] at hcr
        have HD := Lib.hid hd
        obtain ⟨g, cap', wa, hrun, hown', hbB, hszw⟩ := app_ad 48 30 Tryz.underlying48 info30 w3 _ v5 l.length (adsC l) ho3 z1 d (by have := HL.out; omega) hsz3
        have HO2 := Lib.hid hown'
        have HB2 := Lib.hid (hb03.trans hbB)
        have HSZ2 := Lib.hid hszw
        have HN3 := Lib.hid hn3
        clear hd hn3 ho3 hown' hbB hszw hbr3 hb03 hb02 hb01 hb1 hb2 ha3
        go_wp2_with (at_builtin; refine app_run rfl _ _ 48 rfl rfl _ _ _ _ rfl rfl hrun ?_)
        go_roundg (m - (k + 1))
        case rel =>
          refine ⟨⟨k + 1, l ++ [madeA x y], _, by go_num, rfl, by omega, by omega, rfl, by simp [HL.out], ?_, ?_, HB2.out, HSZ2.out⟩, trivial⟩
          · intro a ha
            rcases List.mem_append.1 ha with ha | ha
            · exact HP.out a ha
            · obtain rfl := List.mem_singleton.1 ha
              exact HXY.out
          · rw [List.length_append, adsC_snoc]
            have e1 : (⟨(117 :: mapD fM (cut14 x).data.toList).toArray⟩ : ByteArray) = z1 := by rw [← HZ.out]
            have e2 : adC (madeA x y) = [.string z1, .string d] := by unfold adC madeA; rw [e1, HD.out]
            rw [e2]
            exact HO2.out
        case measure => have := HG.out; omega
      · have hk2 : ((k : Int) == (most : Int)) = true := by simp; omega
        have ht1' := ht1
        obtain ⟨-, c0, c1, f0, f1⟩ := ht1'
        have HO1 := Lib.hid (own_below HO.out hb1)
        have HB1 := Lib.hid (HB.out.trans (hb1.mono HSZ.out))
        generalize hw1 : wr.alloc (.cells #[.string x, .string y] 30) = w1 at ht1 hb1 c0 c1 f0 f1 HO1 HB1
        have HR := Lib.hid (ARow.of HO1.out)
        go_wp2
        go_ret
        exact ⟨_, rfl, l, HR.out, by have := HL.out; omega, HP.out, HB1.out⟩
    · have hge : ¬ (k : Int) < (m : Int) := by omega
      have HR := Lib.hid (ARow.of HO.out)
      go_wp2
      go_ret
      exact ⟨_, rfl, l, HR.out, by have := HL.out; omega, fun a b h => HP.out (a, b) h, HB.out⟩
end Go.Proofs.YtffngbjnbigipaaGreatDoor

/- line: a list of addresses, each in one of several forms; strings.Join in this seat's numbers. -/
namespace Go.Proofs
set_option maxRecDepth 100000
def Tryz.lays156_ren : Go.Shelf.Ren := ⟨fun | 156 => 60 | 165 => 40 | 166 => 41 | 169 => 43 | 240 => 79 | 241 => 80 | 276 => 127 | 277 => 128 | n => n, fun | 0 => 0 | 3 => 3 | 4 => 4 | 5 => 5 | 9 => 9 | 20 => 20 | 31 => 61 | 37 => 80 | 70 => 79 | 72 => 82 | 75 => 85 | 76 => 86 | 80 => 89 | 127 => 116 | 164 => 146 | n => n, fun n => n⟩
theorem Tryz.lays156 : Go.Proofs.Lays.n156 Tryz.prog Tryz.lays156_ren := {
  mixed := by kernel_rfl
  f156 := Tryz.func60.trans (congrArg some (by kernel_rfl))
  f165 := Tryz.func40.trans (congrArg some (by kernel_rfl))
  f166 := Tryz.func41.trans (congrArg some (by kernel_rfl))
  f169 := Tryz.func43.trans (congrArg some (by kernel_rfl))
  f240 := Tryz.func79.trans (congrArg some (by kernel_rfl))
  f241 := Tryz.func80.trans (congrArg some (by kernel_rfl))
  f276 := Tryz.func127.trans (congrArg some (by kernel_rfl))
  f277 := Tryz.func128.trans (congrArg some (by kernel_rfl))
  t0 := Tryz.underlying0
  a0 := Tryz.isAgg0
  z0 := Tryz.sizeOf0
  v0 := Tryz.zeroValue0
  t3 := Tryz.underlying3
  a3 := Tryz.isAgg3
  z3 := Tryz.sizeOf3
  v3 := Tryz.zeroValue3
  t4 := Tryz.underlying4
  a4 := Tryz.isAgg4
  z4 := Tryz.sizeOf4
  v4 := Tryz.zeroValue4
  t9 := Tryz.underlying9
  a9 := Tryz.isAgg9
  z9 := Tryz.sizeOf9
  v9 := Tryz.zeroValue9
  t20 := Tryz.underlying20
  a20 := Tryz.isAgg20
  z20 := Tryz.sizeOf20
  v20 := Tryz.zeroValue20
  t31 := Tryz.underlying61
  a31 := Tryz.isAgg61
  z31 := Tryz.sizeOf61
  v31 := Tryz.zeroValue61
  t37 := Tryz.underlying80
  a37 := Tryz.isAgg80
  z37 := Tryz.sizeOf80
  v37 := Tryz.zeroValue80
  t70 := Tryz.underlying79
  a70 := Tryz.isAgg79
  z70 := Tryz.sizeOf79
  v70 := Tryz.zeroValue79
  t72 := Tryz.underlying82
  a72 := Tryz.isAgg82
  z72 := Tryz.sizeOf82
  v72 := Tryz.zeroValue82
  t75 := Tryz.underlying85
  a75 := Tryz.isAgg85
  z75 := Tryz.sizeOf85
  v75 := Tryz.zeroValue85
  t76 := Tryz.underlying86
  a76 := Tryz.isAgg86
  z76 := Tryz.sizeOf86
  v76 := Tryz.zeroValue86
  t127 := Tryz.underlying116
  a127 := Tryz.isAgg116
  z127 := Tryz.sizeOf116
  v127 := Tryz.zeroValue116
  t164 := Tryz.underlying146
  a164 := Tryz.isAgg146
  z164 := Tryz.sizeOf146
  v164 := Tryz.zeroValue146 }
theorem Tryz.Builder_Extra_156 : Builder.Extra Tryz.prog Tryz.lays156_ren := {
  sizeBuilder := by kernel_rfl
  liesBuilder := by kernel_rfl
  t5 := Tryz.underlying5
  a5 := Tryz.isAgg5
  z5 := Tryz.sizeOf5
  v5 := Tryz.zeroValue5
  infoByte := by kernel_rfl
  cellsByte := by kernel_rfl
  sizeByte := by kernel_rfl
  neB5 := by decide }
end Go.Proofs
namespace Go.Proofs.YtffngbjnbigipaaGreatDoor
open Go.RowKit Go.Lib Go.Proofs
set_option linter.unusedSimpArgs false
set_option linter.unusedVariables false
set_option linter.unnecessarySimpa false
set_option maxRecDepth 100000

/-- a text in one of eight forms. -/
def formT (f : Nat) (T : List UInt8) : List UInt8 :=
  if f = 0 then T else if f = 1 then [32, 40, 99, 41, 32] ++ (T ++ [32]) else if f = 2 then [78, 97, 109, 101, 32, 78, 46, 32, 60] ++ (T ++ [62])
  else if f = 3 then [34, 113, 44, 32, 92, 34, 32, 120, 34, 40, 121, 41, 60, 32] ++ (T ++ [9, 62]) else if f = 4 then [60, 64, 114, 44, 64, 91, 49, 46, 50, 46, 51, 46, 52, 93, 58] ++ (T ++ [62])
  else if f = 5 then [103, 58, 32] ++ (T ++ [59]) else if f = 6 then [103, 32, 104, 58, 44] ++ (T ++ ([44, 60] ++ (T ++ [62, 59]))) else [44]
/-- the form of the k-th. -/
def formN (F k : Nat) : Nat := F / 2 ^ (3 * (k % 10)) % 8
def partsL (F : Nat) (l : List Ad) : List (List UInt8) := l.mapIdx fun k a => formT (formN F k) (textL a)
theorem made_text {a : Ad} (h : Made a) : (textL a).length ≤ 43 := by
  have := text_len_le a
  have h1 := h.2.1
  have h2 := h.2.2
  omega
theorem form_len (f : Nat) {T : List UInt8} (h : T.length ≤ 43) : (formT f T).length ≤ 100 := by
  unfold formT
  repeat' split
  all_goals (try simp only [List.length_append, List.length_cons, List.length_nil])
  all_goals omega
theorem part_at (F : Nat) (l : List Ad) (k : Nat) (a : Ad) (h : l[k]? = some a) : (partsL F l)[k]? = some (formT (formN F k) (textL a)) := by
  unfold partsL
  rw [List.getElem?_mapIdx, h]
  rfl
theorem form_bits (F k : Nat) (hF : F < 4294967296) : bits BinOp.and IntKind.u32 ((F : Int) / 2 ^ (3 * (k % 10))) 7 = ((formN F k : Nat) : Int) := by
  have e : ((F : Int) / 2 ^ (3 * (k % 10))) = ((F / 2 ^ (3 * (k % 10)) : Nat) : Int) := by simp
  rw [e]
  have hle : F / 2 ^ (3 * (k % 10)) ≤ F := Nat.div_le_self _ _
  unfold formN
  generalize F / 2 ^ (3 * (k % 10)) = G at hle
  have hG : G < 4294967296 := by omega
  have e7 : G % 8 = G &&& 7 := (Nat.and_two_pow_sub_one_eq_mod G 3).symm
  rw [e7]
  exact u32_and_nat G 7 hG (by decide)
/-- a slice whose elements are these texts, of the call's own. -/
def txC (l : List (List UInt8)) : List Value := l.map fun t => .string ⟨t.toArray⟩
theorem join_le : ∀ (ts : List (List UInt8)), (∀ t ∈ ts, t.length ≤ 100) → (join ts [44]).length ≤ 101 * ts.length
  | [], _ => by simp [join_nil]
  | x :: r, h => by
    have hl : ∀ (r : List (List UInt8)), (∀ t ∈ r, t.length ≤ 100) → lens r ≤ 100 * r.length := by
      intro r
      induction r with
      | nil => intro _; simp [lens]
      | cons y r ih =>
        intro h
        have h1 := ih (fun t ht => h t (List.mem_cons_of_mem _ ht))
        have h2 := h y List.mem_cons_self
        simp only [lens, List.map_cons, List.sum_cons, List.length_cons] at h1 ⊢
        omega
    have h1 := hl r (fun t ht => h t (List.mem_cons_of_mem _ ht))
    have h2 := h x List.mem_cons_self
    rw [join_cons, List.length_append, joinTail_length]
    simp only [List.length_cons, List.length_nil]
    omega
theorem parts_len (F : Nat) (l : List Ad) (hM : ∀ a ∈ l, Made a) : ∀ t ∈ partsL F l, t.length ≤ 100 := by
  intro t ht
  obtain ⟨i, hi⟩ := List.mem_iff_getElem?.1 ht
  unfold partsL at hi
  rw [List.getElem?_mapIdx] at hi
  cases ha : l[i]? with
  | none => rw [ha] at hi; cases hi
  | some a =>
    rw [ha] at hi
    simp only [Option.map_some, Option.some.injEq] at hi
    rw [← hi]
    exact form_len _ (made_text (hM a (List.mem_of_getElem? ha)))
/-- the texts of a row of the call's own, joined by commas. -/
theorem join_own (B : Nat) (v : Value) (n : Nat) (ts : List (List UInt8)) (W : World) (ho : W.ownsRow B 9 1 v n (txC ts)) (hB : B ≤ W.heap.size) (hn : ts.length = n) (hn2 : n ≤ 1000) (ht : ∀ t ∈ ts, t.length ≤ 100) :
    Calls Tryz.prog 60 #[v, .string ⟨#[44]⟩] W fun e w' => e = .returned (.string ⟨(join ts [44]).toArray⟩) ∧ Below W.heap.size W w' := by
  have hc := fun (g : Nat) (hg : v.ownBlock = some g) => World.ownsRow.cells ho (g := g) hg
  obtain ⟨_, ⟨rfl, h0⟩ | ⟨g, cap, cur, rfl, hBg, hg, hcap, _⟩⟩ := ho
  · have : ts = [] := List.eq_nil_of_length_eq_zero (by omega)
    subst this
    exact (Any.strings_Join_none Tryz.lays156 Tryz.Builder_Extra_156 none 0 ⟨#[44]⟩ W).mono fun e w' ⟨he, hw⟩ => ⟨he, hw ▸ Below.refl _ _⟩
  · have hmm : (ts.map fun t => (⟨t.toArray⟩ : ByteArray)).map (·.data.toList) = ts := by
      rw [List.map_map]
      conv => rhs; rw [← List.map_id ts]
      apply List.map_congr_left
      intro t _
      rfl
    have hJ := Any.strings_Join Tryz.lays156 Tryz.Builder_Extra_156 g 0 cap (ts.map fun t => (⟨t.toArray⟩ : ByteArray)) ⟨#[44]⟩ W
      (fun j x hx => by
        have h1 := hc g rfl j (.string x) (by
          unfold txC
          rw [List.getElem?_map] at hx ⊢
          cases hj : ts[j]? with
          | none => rw [hj] at hx; cases hx
          | some t => rw [hj] at hx; simp only [Option.map_some, Option.some.injEq] at hx ⊢; rw [hx])
        have hadd : (⟨g, 0, none⟩ : Addr).add j = ⟨g, j, none⟩ := by unfold Addr.add; split <;> simp_all
        rw [hadd] at h1
        rw [Nat.zero_add]
        exact h1)
      (Array.getElem?_eq_some_iff.1 hg).1 (by simp; omega) (by simp; omega) (by
        rw [hmm]
        have := join_le ts ht
        show (join ts [44]).length ≤ _
        omega)
    rw [hmm, List.length_map, hn] at hJ
    exact hJ
def LiRel (w : World) (F : Nat) (l : List Ad) (g : Nat) (v5 v11 : Value) (W : World) : Prop :=
  ∃ (k : Nat) (v : Value), v11 = .int .i64 (k : Int) ∧ v = v5 ∧ k ≤ l.length ∧ g = l.length - k ∧ W.ownsRow w.heap.size 9 1 v k (txC ((partsL F l).take k)) ∧ Below w.heap.size w W ∧ w.heap.size ≤ W.heap.size
set_option maxHeartbeats 8000000 in
theorem line_any (v : Value) (l : List Ad) (F : Nat) (w : World) (h : ARow w v l) (hl : l.length ≤ 1000) (hF : F < 4294967296) (hM : ∀ a ∈ l, Made a) (hE : Env w) :
    Calls Tryz.prog 27 #[v, .int .u32 (F : Int)] w fun e w' => e = .returned (.string ⟨(join (partsL F l) [44]).toArray⟩) ∧ Below w.heap.size w w' := by
  have HROW := Lib.hid h
  have HE := Lib.hid hE
  have HM := Lib.hid hM
  obtain ⟨p, cap, rfl, -⟩ := h
  clear hE hM
  go_enter Tryz.func27, Tryz.ntmps27
  go_wp2_with fail
  go_loopg [5, 11] l.length (fun g v5 v11 W => LiRel w F l g v5 v11 W)
  case atStart => exact ⟨0, _, rfl, rfl, Nat.zero_le _, rfl, World.ownsRow_nil _ _ _ _, Below.refl _ _, Nat.le_refl _⟩
  case round =>
    obtain ⟨k, v5, rfl, rfl, hk, hg, hown, hb, hsz⟩ := hrel
    have HG := Lib.hid hg
    have HB := Lib.hid hb
    have HO := Lib.hid hown
    have HSZ := Lib.hid hsz
    clear hg hb hown hsz
    by_cases hlt : k < l.length
    · have hk0 : (0 : Int) ≤ (k : Int) := by omega
      have hk1 : (k : Int) < (l.length : Int) := by omega
      have hwk : IntKind.i64.wrap ((k : Int) + 1) = (k : Int) + 1 := by rw [IntKind.wrap_i64]; omega
      have hr := HROW.out.below HB.out
      obtain ⟨p', cap', he, h | ⟨b, hp, h⟩⟩ := hr
      · rw [h] at hlt; simp at hlt
      obtain rfl : cap = cap' := by injection he
      obtain rfl : p = p' := by injection he
      subst hp
      clear he
      obtain ⟨c0, c1⟩ := h k _ (List.getElem?_eq_getElem hlt)
      have HK := Lib.hid (show l[k]? = some l[k] from List.getElem?_eq_getElem hlt)
      have HMA := Lib.hid (HM.out _ (List.getElem_mem hlt))
      generalize l[k] = a at c0 c1 HK HMA
      clear h
      obtain ⟨x, y⟩ := a
      simp only at c0 c1
      have ht1 := Two.made wr (.string ⟨x.toArray⟩) (.string ⟨y.toArray⟩) 30
      have hb1 := alloc_below wr (.cells #[.string ⟨x.toArray⟩, .string ⟨y.toArray⟩] 30)
      generalize hw1 : wr.alloc (.cells #[.string ⟨x.toArray⟩, .string ⟨y.toArray⟩] 30) = w1 at ht1 hb1
      have hb01 : Below w.heap.size w w1 := HB.out.trans (hb1.mono HSZ.out)
      have HTX := Lib.hid (Text_any (x, y) (by have := HMA.out.2.1; simp at this ⊢; omega) (by have := HMA.out.2.2; simp at this ⊢; omega) w1 (HE.out.below hb01))
      have HTL := Lib.hid (made_text HMA.out)
      simp only [addrV] at HTX
      generalize hTT : textL (x, y) = T at HTX HTL
      generalize hTB : (⟨T.toArray⟩ : ByteArray) = tb at HTX
      have ht2 := ht1
      obtain ⟨-, d0, d1, f0, f1⟩ := ht2
      go_wp2_with fail
      refine HTX.out.mono ?_
      rintro e w2 ⟨rfl, hb2⟩
      have ha3 := alloc_below w2 (.cells #[.string tb, .string (⟨#[32, 40, 99, 41, 32]⟩ ++ tb ++ ⟨#[32]⟩), .string (⟨#[78, 97, 109, 101, 32, 78, 46, 32, 60]⟩ ++ tb ++ ⟨#[62]⟩), .string (⟨#[34, 113, 44, 32, 92, 34, 32, 120, 34, 40, 121, 41, 60, 32]⟩ ++ tb ++ ⟨#[9, 62]⟩), .string (⟨#[60, 64, 114, 44, 64, 91, 49, 46, 50, 46, 51, 46, 52, 93, 58]⟩ ++ tb ++ ⟨#[62]⟩), .string (⟨#[103, 58, 32]⟩ ++ tb ++ ⟨#[59]⟩), .string (⟨#[103, 32, 104, 58, 44]⟩ ++ tb ++ ⟨#[44, 60]⟩ ++ tb ++ ⟨#[62, 59]⟩), .string ⟨#[44]⟩] 9)
      have hn3 := heap_alloc_new w2 (.cells #[.string tb, .string (⟨#[32, 40, 99, 41, 32]⟩ ++ tb ++ ⟨#[32]⟩), .string (⟨#[78, 97, 109, 101, 32, 78, 46, 32, 60]⟩ ++ tb ++ ⟨#[62]⟩), .string (⟨#[34, 113, 44, 32, 92, 34, 32, 120, 34, 40, 121, 41, 60, 32]⟩ ++ tb ++ ⟨#[9, 62]⟩), .string (⟨#[60, 64, 114, 44, 64, 91, 49, 46, 50, 46, 51, 46, 52, 93, 58]⟩ ++ tb ++ ⟨#[62]⟩), .string (⟨#[103, 58, 32]⟩ ++ tb ++ ⟨#[59]⟩), .string (⟨#[103, 32, 104, 58, 44]⟩ ++ tb ++ ⟨#[44, 60]⟩ ++ tb ++ ⟨#[62, 59]⟩), .string ⟨#[44]⟩] 9)
      generalize hw3 : w2.alloc (.cells #[.string tb, .string (⟨#[32, 40, 99, 41, 32]⟩ ++ tb ++ ⟨#[32]⟩), .string (⟨#[78, 97, 109, 101, 32, 78, 46, 32, 60]⟩ ++ tb ++ ⟨#[62]⟩), .string (⟨#[34, 113, 44, 32, 92, 34, 32, 120, 34, 40, 121, 41, 60, 32]⟩ ++ tb ++ ⟨#[9, 62]⟩), .string (⟨#[60, 64, 114, 44, 64, 91, 49, 46, 50, 46, 51, 46, 52, 93, 58]⟩ ++ tb ++ ⟨#[62]⟩), .string (⟨#[103, 58, 32]⟩ ++ tb ++ ⟨#[59]⟩), .string (⟨#[103, 32, 104, 58, 44]⟩ ++ tb ++ ⟨#[44, 60]⟩ ++ tb ++ ⟨#[62, 59]⟩), .string ⟨#[44]⟩] 9) = w3 at ha3 hn3
      have hf8 : formN F k < 8 := Nat.mod_lt _ (by decide)
      have hcf : ∃ fb : ByteArray, w3.cell? ⟨w2.heap.size, formN F k, none⟩ = some (.string fb) ∧ fb.data.toList = formT (formN F k) T := by
        have htl : tb.data.toList = T := by rw [← hTB]
        generalize formN F k = f at hf8
        match f, hf8 with
        | 0, _ => exact ⟨_, (by simp only [World.cell?, hn3]; rfl), by simp [formT, htl]⟩
        | 1, _ => exact ⟨_, (by simp only [World.cell?, hn3]; rfl), by simp [formT, htl]⟩
        | 2, _ => exact ⟨_, (by simp only [World.cell?, hn3]; rfl), by simp [formT, htl]⟩
        | 3, _ => exact ⟨_, (by simp only [World.cell?, hn3]; rfl), by simp [formT, htl]⟩
        | 4, _ => exact ⟨_, (by simp only [World.cell?, hn3]; rfl), by simp [formT, htl]⟩
        | 5, _ => exact ⟨_, (by simp only [World.cell?, hn3]; rfl), by simp [formT, htl]⟩
        | 6, _ => exact ⟨_, (by simp only [World.cell?, hn3]; rfl), by simp [formT, htl]⟩
        | 7, _ => exact ⟨_, (by simp only [World.cell?, hn3]; rfl), by simp [formT, htl]⟩
      obtain ⟨fb, hcf, hfb⟩ := hcf
      have HFB := Lib.hid hfb
      have hbits := form_bits F k hF
      have hpart := Lib.hid (hTT ▸ part_at F l k (x, y) HK.out)
      have hsz2 : w.heap.size ≤ w2.heap.size := Nat.le_trans HSZ.out (Nat.le_trans hb1.size hb2.size)
      have hsz3 : w.heap.size ≤ w3.heap.size := Nat.le_trans hsz2 ha3.size
      have hb03 : Below w.heap.size w w3 := (hb01.trans (hb2.mono hb01.size)).trans (ha3.mono hsz2)
      have hbr3 : Below wr.heap.size wr w3 := (hb1.trans (hb2.mono hb1.size)).trans (ha3.mono (Nat.le_trans hb1.size hb2.size))
      have ho3 := own_below HO.out hbr3
      have hbase3 := own_base HO.out
      obtain ⟨g, cap', wa, hrun, hown', hgr⟩ := app_str_eq (w3.alloc (.cells #[.string fb] 9)) w.heap.size v5 k _ (World.ownsRow.alloc (w := w3) ho3 _) ⟨w3.heap.size, 0, none⟩ 1 (.string fb) (new_cell _ _ _) rfl (by omega) (by rw [World.size_alloc]; omega)
      have HO2 := Lib.hid hown'
      have HB2 := Lib.hid ((hb03.alloc hsz3 (.cells #[.string fb] 9)).grown hgr (by rw [World.size_alloc]; omega) hbase3)
      have HFR := Lib.hid hf8
      generalize formN F k = f at hcf hbits HFB hpart HFR
      have hfi0 : (0 : Int) ≤ (f : Int) := by omega
      have hfi8 : (f : Int) < 8 := by have := HFR.out; omega
      have htbs : tb.size ≤ 43 := by rw [← hTB]; exact HTL.out
      have adA1 := add_run (X := ⟨#[32, 40, 99, 41, 32]⟩) (Y := tb) (Z := ⟨#[32, 40, 99, 41, 32]⟩ ++ tb) rfl (by have h1 : (⟨#[32, 40, 99, 41, 32]⟩ : ByteArray).size = 5 := rfl; omega)
      have adA2 := add_run (X := ⟨#[32, 40, 99, 41, 32]⟩ ++ tb) (Y := ⟨#[32]⟩) (Z := ⟨#[32, 40, 99, 41, 32]⟩ ++ tb ++ ⟨#[32]⟩) rfl (by rw [ByteArray.size_append]; have h1 : (⟨#[32, 40, 99, 41, 32]⟩ : ByteArray).size = 5 := rfl; have h2 : (⟨#[32]⟩ : ByteArray).size = 1 := rfl; omega)
      have adB1 := add_run (X := ⟨#[78, 97, 109, 101, 32, 78, 46, 32, 60]⟩) (Y := tb) (Z := ⟨#[78, 97, 109, 101, 32, 78, 46, 32, 60]⟩ ++ tb) rfl (by have h1 : (⟨#[78, 97, 109, 101, 32, 78, 46, 32, 60]⟩ : ByteArray).size = 9 := rfl; omega)
      have adB2 := add_run (X := ⟨#[78, 97, 109, 101, 32, 78, 46, 32, 60]⟩ ++ tb) (Y := ⟨#[62]⟩) (Z := ⟨#[78, 97, 109, 101, 32, 78, 46, 32, 60]⟩ ++ tb ++ ⟨#[62]⟩) rfl (by rw [ByteArray.size_append]; have h1 : (⟨#[78, 97, 109, 101, 32, 78, 46, 32, 60]⟩ : ByteArray).size = 9 := rfl; have h2 : (⟨#[62]⟩ : ByteArray).size = 1 := rfl; omega)
      have adC1 := add_run (X := ⟨#[34, 113, 44, 32, 92, 34, 32, 120, 34, 40, 121, 41, 60, 32]⟩) (Y := tb) (Z := ⟨#[34, 113, 44, 32, 92, 34, 32, 120, 34, 40, 121, 41, 60, 32]⟩ ++ tb) rfl (by have h1 : (⟨#[34, 113, 44, 32, 92, 34, 32, 120, 34, 40, 121, 41, 60, 32]⟩ : ByteArray).size = 14 := rfl; omega)
      have adC2 := add_run (X := ⟨#[34, 113, 44, 32, 92, 34, 32, 120, 34, 40, 121, 41, 60, 32]⟩ ++ tb) (Y := ⟨#[9, 62]⟩) (Z := ⟨#[34, 113, 44, 32, 92, 34, 32, 120, 34, 40, 121, 41, 60, 32]⟩ ++ tb ++ ⟨#[9, 62]⟩) rfl (by rw [ByteArray.size_append]; have h1 : (⟨#[34, 113, 44, 32, 92, 34, 32, 120, 34, 40, 121, 41, 60, 32]⟩ : ByteArray).size = 14 := rfl; have h2 : (⟨#[9, 62]⟩ : ByteArray).size = 2 := rfl; omega)
      have adD1 := add_run (X := ⟨#[60, 64, 114, 44, 64, 91, 49, 46, 50, 46, 51, 46, 52, 93, 58]⟩) (Y := tb) (Z := ⟨#[60, 64, 114, 44, 64, 91, 49, 46, 50, 46, 51, 46, 52, 93, 58]⟩ ++ tb) rfl (by have h1 : (⟨#[60, 64, 114, 44, 64, 91, 49, 46, 50, 46, 51, 46, 52, 93, 58]⟩ : ByteArray).size = 15 := rfl; omega)
      have adD2 := add_run (X := ⟨#[60, 64, 114, 44, 64, 91, 49, 46, 50, 46, 51, 46, 52, 93, 58]⟩ ++ tb) (Y := ⟨#[62]⟩) (Z := ⟨#[60, 64, 114, 44, 64, 91, 49, 46, 50, 46, 51, 46, 52, 93, 58]⟩ ++ tb ++ ⟨#[62]⟩) rfl (by rw [ByteArray.size_append]; have h1 : (⟨#[60, 64, 114, 44, 64, 91, 49, 46, 50, 46, 51, 46, 52, 93, 58]⟩ : ByteArray).size = 15 := rfl; have h2 : (⟨#[62]⟩ : ByteArray).size = 1 := rfl; omega)
      have adE1 := add_run (X := ⟨#[103, 58, 32]⟩) (Y := tb) (Z := ⟨#[103, 58, 32]⟩ ++ tb) rfl (by have h1 : (⟨#[103, 58, 32]⟩ : ByteArray).size = 3 := rfl; omega)
      have adE2 := add_run (X := ⟨#[103, 58, 32]⟩ ++ tb) (Y := ⟨#[59]⟩) (Z := ⟨#[103, 58, 32]⟩ ++ tb ++ ⟨#[59]⟩) rfl (by rw [ByteArray.size_append]; have h1 : (⟨#[103, 58, 32]⟩ : ByteArray).size = 3 := rfl; have h2 : (⟨#[59]⟩ : ByteArray).size = 1 := rfl; omega)
      have adF1 := add_run (X := ⟨#[103, 32, 104, 58, 44]⟩) (Y := tb) (Z := ⟨#[103, 32, 104, 58, 44]⟩ ++ tb) rfl (by have h1 : (⟨#[103, 32, 104, 58, 44]⟩ : ByteArray).size = 5 := rfl; omega)
      have adF2 := add_run (X := ⟨#[103, 32, 104, 58, 44]⟩ ++ tb) (Y := ⟨#[44, 60]⟩) (Z := ⟨#[103, 32, 104, 58, 44]⟩ ++ tb ++ ⟨#[44, 60]⟩) rfl (by rw [ByteArray.size_append]; have h1 : (⟨#[103, 32, 104, 58, 44]⟩ : ByteArray).size = 5 := rfl; have h2 : (⟨#[44, 60]⟩ : ByteArray).size = 2 := rfl; omega)
      have adF3 := add_run (X := ⟨#[103, 32, 104, 58, 44]⟩ ++ tb ++ ⟨#[44, 60]⟩) (Y := tb) (Z := ⟨#[103, 32, 104, 58, 44]⟩ ++ tb ++ ⟨#[44, 60]⟩ ++ tb) rfl (by rw [ByteArray.size_append, ByteArray.size_append]; have h1 : (⟨#[103, 32, 104, 58, 44]⟩ : ByteArray).size = 5 := rfl; have h2 : (⟨#[44, 60]⟩ : ByteArray).size = 2 := rfl; omega)
      have adF4 := add_run (X := ⟨#[103, 32, 104, 58, 44]⟩ ++ tb ++ ⟨#[44, 60]⟩ ++ tb) (Y := ⟨#[62, 59]⟩) (Z := ⟨#[103, 32, 104, 58, 44]⟩ ++ tb ++ ⟨#[44, 60]⟩ ++ tb ++ ⟨#[62, 59]⟩) rfl (by rw [ByteArray.size_append, ByteArray.size_append, ByteArray.size_append]; have h1 : (⟨#[103, 32, 104, 58, 44]⟩ : ByteArray).size = 5 := rfl; have h2 : (⟨#[44, 60]⟩ : ByteArray).size = 2 := rfl; have h3 : (⟨#[62, 59]⟩ : ByteArray).size = 2 := rfl; omega)
      clear htbs
      clear hf8 hn3 ho3 hown' hgr hbase3 hbr3 hb03 hb01 hb1 hb2 ha3
      go_wp2_with (at_builtin; refine app_run rfl _ _ 61 rfl rfl _ _ _ _ rfl rfl hrun ?_)
      go_roundg (l.length - (k + 1))
      case rel =>
        refine ⟨k + 1, _, by go_num, rfl, by omega, rfl, ?_, HB2.out, HB2.out.size⟩
        · rw [List.take_add_one, hpart.out]
          have e : (⟨(formT f T).toArray⟩ : ByteArray) = fb := by rw [← HFB.out]
          have e2 : txC ((partsL F l).take k ++ [formT f T]) = txC ((partsL F l).take k) ++ [.string fb] := by unfold txC; rw [List.map_append]; simp only [List.map_cons, List.map_nil, e]
          simp only [Option.toList_some]
          rw [e2]
          exact HO2.out
      case measure => have := HG.out; omega
    · have hge : ¬ (k : Int) < (l.length : Int) := by omega
      have hkl : k = l.length := by omega
      subst hkl
      have HJ := Lib.hid (join_own _ _ _ _ _ HO.out HSZ.out (by rw [List.take_of_length_le (by simp [partsL])]; simp [partsL]) (by omega) (fun t ht => parts_len F l HM.out t (List.mem_of_mem_take ht)))
      rw [List.take_of_length_le (by simp [partsL])] at HJ
      go_wp2_with fail
      refine HJ.out.mono ?_
      rintro e w2 ⟨rfl, hb2⟩
      go_wp2
      go_ret
      exact ⟨rfl, HB.out.trans (hb2.mono HSZ.out)⟩
end Go.Proofs.YtffngbjnbigipaaGreatDoor

/- A line of addresses in whatever forms: each is found, in order, and its spot is its text. Plain Lean. -/
namespace Go.Proofs.YtffngbjnbigipaaGreatDoor
open Go.RowKit Go.Lib
set_option linter.unusedSimpArgs false
set_option linter.unusedVariables false
set_option linter.unnecessarySimpa false
set_option maxRecDepth 100000

def wantF (f : Nat) (a : Ad) : List Ad := if f = 6 then [a, a] else if f = 7 then [] else [a]
def wantL (F : Nat) (l : List Ad) : List Ad := (l.mapIdx fun k a => wantF (formN F k) a).flatten
theorem want_snoc (F : Nat) (l : List Ad) (a : Ad) : wantL F (l ++ [a]) = wantL F l ++ wantF (formN F l.length) a := by
  unfold wantL
  rw [List.mapIdx_concat, List.flatten_append]
  simp
theorem wantF_len (f : Nat) (a : Ad) : (wantF f a).length ≤ 2 := by
  unfold wantF
  split
  · simp
  · split <;> simp
/-- what is found in a text are these addresses, each where its text stands. -/
def Found (s : List UInt8) (W : List Ad) : Prop := ∃ sp, findL s = (sp, 0) ∧ sp.map (·.2.2) = W ∧ ∀ x ∈ sp, x.1 ≤ x.2.1 ∧ x.2.1 ≤ s.length ∧ slc s x.1 x.2.1 = textL x.2.2
theorem found_form (f : Nat) (hf : f < 8) (a : Ad) (hm : mayL a = true) : Found (formT f (textL a)) (wantF f a) := by
  have at0 : ∀ (p q : List UInt8), (p ++ (textL a ++ q)).drop p.length = textL a ++ q := fun p q => by simp
  have one : ∀ (p q : List UInt8) (k : Nat), p.length = k → (spT k a).1 ≤ (spT k a).2.1 ∧ (spT k a).2.1 ≤ (p ++ (textL a ++ q)).length ∧ slc (p ++ (textL a ++ q)) (spT k a).1 (spT k a).2.1 = textL (spT k a).2.2 := by
    intro p q k hk
    subst hk
    refine ⟨by simp [spT], by simp [spT], ?_⟩
    exact slc_drop (at0 p q)
  have solo : ∀ (p q : List UInt8) (k : Nat), p.length = k → findL (p ++ (textL a ++ q)) = ([spT k a], 0) → Found (p ++ (textL a ++ q)) [a] := by
    intro p q k hk h
    refine ⟨_, h, rfl, fun x hx => ?_⟩
    obtain rfl := List.mem_singleton.1 hx
    exact one p q k hk
  match f, hf with
  | 0, _ =>
    have h := solo [] [] 0 rfl (by simpa using form0 a hm)
    simpa [formT, wantF] using h
  | 1, _ => exact solo [32, 40, 99, 41, 32] [32] 5 rfl (form1 a hm)
  | 2, _ => exact solo [78, 97, 109, 101, 32, 78, 46, 32, 60] [62] 9 rfl (form2 a hm)
  | 3, _ => exact solo [34, 113, 44, 32, 92, 34, 32, 120, 34, 40, 121, 41, 60, 32] [9, 62] 14 rfl (form3 a hm)
  | 4, _ => exact solo [60, 64, 114, 44, 64, 91, 49, 46, 50, 46, 51, 46, 52, 93, 58] [62] 15 rfl (form4 a hm)
  | 5, _ => exact solo [103, 58, 32] [59] 3 rfl (form5 a hm)
  | 6, _ =>
    refine ⟨_, form6 a hm, rfl, fun x hx => ?_⟩
    rcases List.mem_cons.1 hx with rfl | hx
    · exact one [103, 32, 104, 58, 44] _ 5 rfl
    · obtain rfl := List.mem_singleton.1 hx
      have h := one ([103, 32, 104, 58, 44] ++ (textL a ++ [44, 60])) [62, 59] (5 + (textL a).length + 2) (by simp; omega)
      have e : ([103, 32, 104, 58, 44] ++ (textL a ++ [44, 60])) ++ (textL a ++ [62, 59]) = [103, 32, 104, 58, 44] ++ (textL a ++ ([44, 60] ++ (textL a ++ [62, 59]))) := by simp
      rw [e] at h
      exact h
  | 7, _ => exact ⟨_, form7, rfl, fun x hx => by cases hx⟩
theorem found_join {a b : List UInt8} {A B : List Ad} (ha : Found a A) (hb : Found b B) (hn : A.length + B.length ≤ 64) : Found (a ++ 44 :: b) (A ++ B) := by
  obtain ⟨sa, ha, rfl, hxa⟩ := ha
  obtain ⟨sb, hb, rfl, hxb⟩ := hb
  refine ⟨_, join_law ha hb (by simpa using hn), ?_, fun x hx => ?_⟩
  · rw [List.map_append, List.map_map]
    rfl
  · rcases List.mem_append.1 hx with hx | hx
    · obtain ⟨h1, h2, h3⟩ := hxa x hx
      exact ⟨h1, by simp; omega, by rw [slc_app a (44 :: b) _ _ h2]; exact h3⟩
    · obtain ⟨y, hy, rfl⟩ := List.mem_map.1 hx
      obtain ⟨h1, h2, h3⟩ := hxb y hy
      have e : a ++ 44 :: b = (a ++ [44]) ++ b := by simp
      have el : a.length + 1 = (a ++ [44]).length := by simp
      refine ⟨by simp [shSp]; omega, by simp [shSp]; omega, ?_⟩
      rw [e, el]
      show slc ((a ++ [44]) ++ b) ((a ++ [44]).length + y.1) ((a ++ [44]).length + y.2.1) = textL y.2.2
      rw [slc_sh]
      exact h3
theorem found_list (F : Nat) : ∀ (l : List Ad) (k : Nat), (∀ a ∈ l, mayL a = true) → l.length ≤ 32 →
    Found (join (l.mapIdx fun j a => formT (formN F (k + j)) (textL a)) [44]) (l.mapIdx fun j a => wantF (formN F (k + j)) a).flatten ∧ ((l.mapIdx fun j a => wantF (formN F (k + j)) a).flatten).length ≤ 2 * l.length
  | [], k, _, _ => ⟨⟨[], form_none, rfl, fun x hx => by cases hx⟩, by simp⟩
  | [a], k, hm, _ => by
    have h := found_form (formN F k) (Nat.mod_lt _ (by decide)) a (hm a List.mem_cons_self)
    have h2 := wantF_len (formN F k) a
    simp only [List.mapIdx_cons, List.mapIdx_nil, join_one, List.flatten_cons, List.flatten_nil, List.append_nil, Nat.add_zero, List.length_cons, List.length_nil]
    exact ⟨h, by omega⟩
  | a :: b :: l, k, hm, hl => by
    have h := found_form (formN F k) (Nat.mod_lt _ (by decide)) a (hm a List.mem_cons_self)
    have h2 := wantF_len (formN F k) a
    obtain ⟨ih, ih2⟩ := found_list F (b :: l) (k + 1) (fun x hx => hm x (List.mem_cons_of_mem _ hx)) (by simp at hl ⊢; omega)
    have e : ∀ j, k + 1 + j = k + (j + 1) := fun j => by omega
    simp only [e] at ih ih2
    have cons1 : ∀ (g : Nat → Ad → List UInt8), (a :: b :: l).mapIdx g = g 0 a :: (b :: l).mapIdx fun j => g (j + 1) := fun g => List.mapIdx_cons
    have cons2 : ∀ (g : Nat → Ad → List Ad), (a :: b :: l).mapIdx g = g 0 a :: (b :: l).mapIdx fun j => g (j + 1) := fun g => List.mapIdx_cons
    rw [cons1, cons2, List.flatten_cons]
    simp only [Nat.add_zero]
    have hj : ∀ (x y : List UInt8) (r : List (List UInt8)), join (x :: y :: r) [44] = x ++ 44 :: join (y :: r) [44] := fun x y r => by
      rw [join_cons, join_cons]
      simp [joinTail]
    have hne : ∃ y r, ((b :: l).mapIdx fun j a => formT (formN F (k + (j + 1))) (textL a)) = y :: r := by rw [List.mapIdx_cons]; exact ⟨_, _, rfl⟩
    obtain ⟨y, r, hyr⟩ := hne
    rw [hyr] at ih ⊢
    rw [hj]
    rw [List.length_append]
    refine ⟨found_join h ih ?_, ?_⟩
    · simp at hl ih2 ⊢; omega
    · simp at hl ih2 ⊢; omega
/-- the law. -/
theorem forms_law (F : Nat) (l : List Ad) (hm : ∀ a ∈ l, mayL a = true) (hl : l.length ≤ 32) : Found (join (partsL F l) [44]) (wantL F l) := by
  have h := (found_list F l 0 hm hl).1
  simp only [Nat.zero_add] at h
  exact h
end Go.Proofs.YtffngbjnbigipaaGreatDoor

/- Several texts joined into one (a claim has a limit of files). -/
/- strings.Builder's WriteString and String in this seat's numbers (printed by mklay.py, types' numbers given by hand). -/
namespace Go.Proofs
set_option maxRecDepth 100000
def Tryz.lays166_ren : Go.Shelf.Ren := ⟨fun | 166 => 41 | 240 => 79 | 276 => 127 | n => n, fun | 0 => 0 | 3 => 3 | 4 => 4 | 5 => 5 | 9 => 9 | 20 => 20 | 37 => 80 | 70 => 79 | 72 => 82 | 75 => 85 | 80 => 89 | 164 => 146 | n => n, fun n => n⟩
theorem Tryz.lays166 : Go.Proofs.Lays.n166 Tryz.prog Tryz.lays166_ren := {
  mixed := by kernel_rfl
  f166 := Tryz.func41.trans (congrArg some (by kernel_rfl))
  f240 := Tryz.func79.trans (congrArg some (by kernel_rfl))
  f276 := Tryz.func127.trans (congrArg some (by kernel_rfl))
  t0 := Tryz.underlying0
  a0 := Tryz.isAgg0
  z0 := Tryz.sizeOf0
  v0 := Tryz.zeroValue0
  t3 := Tryz.underlying3
  a3 := Tryz.isAgg3
  z3 := Tryz.sizeOf3
  v3 := Tryz.zeroValue3
  t4 := Tryz.underlying4
  a4 := Tryz.isAgg4
  z4 := Tryz.sizeOf4
  v4 := Tryz.zeroValue4
  t9 := Tryz.underlying9
  a9 := Tryz.isAgg9
  z9 := Tryz.sizeOf9
  v9 := Tryz.zeroValue9
  t20 := Tryz.underlying20
  a20 := Tryz.isAgg20
  z20 := Tryz.sizeOf20
  v20 := Tryz.zeroValue20
  t37 := Tryz.underlying80
  a37 := Tryz.isAgg80
  z37 := Tryz.sizeOf80
  v37 := Tryz.zeroValue80
  t70 := Tryz.underlying79
  a70 := Tryz.isAgg79
  z70 := Tryz.sizeOf79
  v70 := Tryz.zeroValue79
  t72 := Tryz.underlying82
  a72 := Tryz.isAgg82
  z72 := Tryz.sizeOf82
  v72 := Tryz.zeroValue82
  t75 := Tryz.underlying85
  a75 := Tryz.isAgg85
  z75 := Tryz.sizeOf85
  v75 := Tryz.zeroValue85
  t164 := Tryz.underlying146
  a164 := Tryz.isAgg146
  z164 := Tryz.sizeOf146
  v164 := Tryz.zeroValue146 }
theorem Tryz.Builder_Extra_166 : Builder.Extra Tryz.prog Tryz.lays166_ren := {
  sizeBuilder := by kernel_rfl
  liesBuilder := by kernel_rfl
  t5 := Tryz.underlying5
  a5 := Tryz.isAgg5
  z5 := Tryz.sizeOf5
  v5 := Tryz.zeroValue5
  infoByte := by kernel_rfl
  cellsByte := by kernel_rfl
  sizeByte := by kernel_rfl
  neB5 := by decide }
open Go.RowKit in
theorem Tryz.WriteString_k (B b : Nat) (bs : List Value) (s : ByteArray) (w : World) (h : Lib.IsBuilderF 82 5 B b bs w) (hlen : bs.length + s.size ≤ 140737488355328) (hBw : B ≤ w.heap.size) :
    Calls Tryz.prog 41 #[.pointer (some ⟨b, 0, none⟩), .string s] w fun e w' => e = .returned (.tuple #[.int .i64 s.size, .nilIface]) ∧ (Lib.BuilderAtF 82 5 B b (.pointer (some ⟨b, 0, none⟩)) (bs ++ Lib.strCells s) w' ∧ Below B w w' ∧ Lib.OthersKept 5 (some b) w w') :=
  Any.Builder_WriteString_k Tryz.lays166 Tryz.Builder_Extra_166 B b bs s w h hlen hBw
end Go.Proofs

/- slices.ContainsFunc over a row of addresses, for list.Put's test. -/
namespace Go.Proofs.YtffngbjnbigipaaGreatDoor
open Go.RowKit Go.Lib
set_option linter.unusedSimpArgs false
set_option linter.unusedVariables false
set_option linter.unnecessarySimpa false
set_option maxRecDepth 100000

theorem clo54 (a : Ad) (h1 : a.1.length ≤ 1000000000) (h2 : a.2.length ≤ 1000000000) (w : World) (hE : Env w) : Calls Tryz.prog 54 #[addrV a] w fun e w' => e = .returned (.bool (!mayL a)) ∧ Below w.heap.size w w' := by
  have HM := Lib.hid (fun W (hE : Env W) => May_any a h1 h2 W hE)
  obtain ⟨x, y⟩ := a
  simp only [addrV] at HM ⊢
  generalize mayL (x, y) = M at HM ⊢
  have ht1 := Two.made w (.string ⟨x.toArray⟩) (.string ⟨y.toArray⟩) 30
  have hb1 := alloc_below w (.cells #[.string ⟨x.toArray⟩, .string ⟨y.toArray⟩] 30)
  generalize hw1 : w.alloc (.cells #[.string ⟨x.toArray⟩, .string ⟨y.toArray⟩] 30) = w1 at ht1 hb1
  obtain ⟨-, c0, c1, f0, f1⟩ := ht1
  go_enter Tryz.func54, Tryz.ntmps54
  go_wp2_with fail
  refine (HM.out _ (hE.below hb1)).mono ?_
  rintro e w2 ⟨rfl, hb2⟩
  go_wp2
  go_ret
  exact ⟨rfl, hb1.trans (hb2.mono hb1.size)⟩
def CoRel (l : List Ad) (w : World) (g : Nat) (v8 : Value) (W : World) : Prop :=
  ∃ k : Nat, v8 = .int .i64 (k : Int) ∧ k ≤ l.length ∧ g = l.length - k ∧ Below w.heap.size w W ∧ (∀ (i : Nat) (a : Ad), i < k → l[i]? = some a → mayL a = true)
set_option maxHeartbeats 4000000 in
theorem Index_addr (l : List Ad) (v : Value) (w : World) (hrow : ARow w v l) (hl : l.length ≤ 1000000) (hA : ∀ a ∈ l, a.1.length ≤ 1000000000 ∧ a.2.length ≤ 1000000000) (hE : Env w) :
    Calls Tryz.prog 98 #[v, .func (.func 54) #[] #[]] w fun e w' => ∃ i : Int, e = .returned (.int .i64 i) ∧ decide (0 ≤ i) = (l.any fun a => !mayL a) ∧ Below w.heap.size w w' := by
  have HROW := Lib.hid hrow
  obtain ⟨p, cap, rfl, -⟩ := hrow
  have HE := Lib.hid hE
  clear hE
  go_enter Tryz.func98, Tryz.ntmps98
  go_wp2_with fail
  go_loopg [8] l.length (fun g v8 W => CoRel l w g v8 W)
  case atStart => exact ⟨0, rfl, Nat.zero_le _, rfl, Below.refl _ _, fun i a h => by omega⟩
  case round =>
    obtain ⟨k, rfl, hk, hg, hb, hall⟩ := hrel
    have HG := Lib.hid hg
    have HB := Lib.hid hb
    have HALL := Lib.hid hall
    clear hg hb hall
    by_cases hlt : k < l.length
    · have hk0 : (0 : Int) ≤ (k : Int) := by omega
      have hk1 : (k : Int) < (l.length : Int) := by omega
      have hwk : IntKind.i64.wrap ((k : Int) + 1) = (k : Int) + 1 := by rw [IntKind.wrap_i64]; omega
      have hr := HROW.out.below HB.out
      obtain ⟨p', cap', he, h | ⟨b, hp, h⟩⟩ := hr
      · rw [h] at hlt; simp at hlt
      obtain rfl : cap = cap' := by injection he
      obtain rfl : p = p' := by injection he
      subst hp
      clear he
      obtain ⟨c0, c1⟩ := h k _ (List.getElem?_eq_getElem hlt)
      have HC := Lib.hid (clo54 l[k] (hA _ (List.getElem_mem hlt)).1 (hA _ (List.getElem_mem hlt)).2 wr (HE.out.below HB.out))
      have HK := Lib.hid (show l[k]? = some l[k] from List.getElem?_eq_getElem hlt)
      have HMEM := Lib.hid (List.getElem_mem hlt)
      generalize l[k] = a at c0 c1 HC HK HMEM
      obtain ⟨x, y⟩ := a
      simp only [addrV] at HC c0 c1
      clear h
      cases hm : mayL (x, y) with
      | true =>
        rw [hm] at HC
        have HM := Lib.hid hm
        clear hm
        go_wp2_with fail
        refine HC.out.mono ?_
        rintro e w2 ⟨rfl, hb2⟩
        go_wp2_with fail
        go_roundg (l.length - (k + 1))
        case rel =>
          refine ⟨k + 1, by go_num, by omega, rfl, HB.out.trans (hb2.mono HB.out.size), fun i a hi ha => ?_⟩
          by_cases hik : i < k
          · exact HALL.out i a hik ha
          · obtain rfl : i = k := by omega
            rw [HK.out] at ha
            cases ha
            exact HM.out
        case measure => have := HG.out; omega
      | false =>
        rw [hm] at HC
        have HM := Lib.hid hm
        clear hm
        go_wp2_with fail
        refine HC.out.mono ?_
        rintro e w2 ⟨rfl, hb2⟩
        go_wp2
        go_ret
        refine ⟨_, rfl, ?_, HB.out.trans (hb2.mono HB.out.size)⟩
        rw [decide_eq_true hk0, eq_comm, List.any_eq_true]
        exact ⟨_, HMEM.out, by rw [HM.out]; rfl⟩
    · have hge : ¬ (k : Int) < (l.length : Int) := by omega
      go_wp2
      go_ret
      refine ⟨_, rfl, ?_, HB.out⟩
      rw [eq_comm, show decide ((0 : Int) ≤ -1) = false from rfl, List.any_eq_false]
      intro a ha
      obtain ⟨i, hi, rfl⟩ := List.getElem_of_mem ha
      rw [HALL.out i l[i] (by omega) (List.getElem?_eq_getElem hi)]
      simp
set_option maxHeartbeats 1000000 in
theorem Contains_addr (l : List Ad) (v : Value) (w : World) (hrow : ARow w v l) (hl : l.length ≤ 1000000) (hA : ∀ a ∈ l, a.1.length ≤ 1000000000 ∧ a.2.length ≤ 1000000000) (hE : Env w) :
    Calls Tryz.prog 53 #[v, .func (.func 54) #[] #[]] w fun e w' => e = .returned (.bool (l.any fun a => !mayL a)) ∧ Below w.heap.size w w' := by
  have HI := Lib.hid (Index_addr l v w hrow hl hA hE)
  generalize (l.any fun a => !mayL a) = M at HI ⊢
  clear hrow hE hA
  go_enter Tryz.func53, Tryz.ntmps53
  go_wp2_with fail
  refine HI.out.mono ?_
  rintro e w2 ⟨i, rfl, hi, hb2⟩
  go_wp2
  go_ret
  subst hi
  exact ⟨rfl, hb2⟩
end Go.Proofs.YtffngbjnbigipaaGreatDoor

/- list.Put: what it hands back, and that nothing old turns. -/
namespace Go.Proofs.YtffngbjnbigipaaGreatDoor
open Go.RowKit Go.Lib
set_option linter.unusedSimpArgs false
set_option linter.unusedVariables false
set_option linter.unnecessarySimpa false
set_option maxRecDepth 100000

theorem builder_keeps {B b : Nat} {bs : List Value} {w W : World} (h : Lib.IsBuilderF 82 5 B b bs w) (hb : Below w.heap.size w W) : Lib.IsBuilderF 82 5 B b bs W := by
  have key : ∀ k o, w.heap[k]? = some o → W.heap[k]? = some o := fun k o hk => by
    have hlt := (Array.getElem?_eq_some_iff.1 hk).1
    rw [hb.block k hlt]; exact hk
  have one : ∀ p, Lib.BuilderAtF 82 5 B b p bs w → Lib.BuilderAtF 82 5 B b p bs W := fun p ⟨hB, v, hbk, hown, hne⟩ => by
    refine ⟨hB, v, key _ _ hbk, ⟨hown.1, ?_⟩, hne⟩
    rcases hown.2 with h0 | ⟨g, cap, cur, fz, hv, hbg, hg, r⟩
    · exact .inl h0
    · exact .inr ⟨g, cap, cur, fz, hv, hbg, key _ _ hg, r⟩
  exact h.elim (fun h => .inl (one _ h)) (fun h => .inr (one _ h))
theorem builder_lt {B b : Nat} {bs : List Value} {w : World} (h : Lib.IsBuilderF 82 5 B b bs w) : b < w.heap.size := by
  rcases h with ⟨_, v, hb, _⟩ | ⟨_, v, hb, _⟩ <;> exact (Array.getElem?_eq_some_iff.1 hb).1
/-- a spot's own block. -/
def SpBlk (W : World) (C : Nat) (i j : Int) (X Y : ByteArray) : Prop := W.heap[C]? = some (.cells #[.int .i64 i, .int .i64 j, .string X, .string Y] 32)
theorem SpBlk.made (w : World) (i j : Int) (X Y : ByteArray) : SpBlk (w.alloc (.cells #[.int .i64 i, .int .i64 j, .string X, .string Y] 32)) w.heap.size i j X Y := heap_alloc_new w _
theorem SpBlk.cells {W : World} {C : Nat} {i j : Int} {X Y : ByteArray} (h : SpBlk W C i j X Y) :
    W.cell? ⟨C, 0, none⟩ = some (.int .i64 i) ∧ W.cell? ⟨C, 1, none⟩ = some (.int .i64 j) ∧ W.cell? ⟨C, 2, none⟩ = some (.string X) ∧ W.cell? ⟨C, 3, none⟩ = some (.string Y) := by
  have h' : W.heap[C]? = some (.cells #[.int .i64 i, .int .i64 j, .string X, .string Y] 32) := h
  refine ⟨?_, ?_, ?_, ?_⟩ <;> (rw [Lib.cell_of_heap h']; rfl)
theorem SpBlk.kept {W W' : World} {C b : Nat} {i j : Int} {X Y : ByteArray} (h : SpBlk W C i j X Y) (hk : Lib.OthersKept 5 (some b) W W') (hne : C ≠ b) : SpBlk W' C i j X Y :=
  hk C _ h (fun e => hne (Option.some.inj e)) (fun c fz e => by cases e)
theorem SpBlk.below {W W' : World} {C : Nat} {i j : Int} {X Y : ByteArray} (h : SpBlk W C i j X Y) (hb : Below W.heap.size W W') : SpBlk W' C i j X Y := by
  have hlt : C < W.heap.size := (Array.getElem?_eq_some_iff.1 h).1
  unfold SpBlk
  rw [hb.block C hlt]
  exact h
theorem SpBlk.lt {W : World} {C : Nat} {i j : Int} {X Y : ByteArray} (h : SpBlk W C i j X Y) : C < W.heap.size := (Array.getElem?_eq_some_iff.1 h).1
/-- the spots gone through: what the builder holds. -/
def WRel (s : ByteArray) (A : List Sp) (l : List Ad) (w : World) (B : Nat) (g : Nat) (v10 v43 : Value) (W : World) : Prop :=
  ∃ (k n : Nat) (L : List UInt8), v10 = .int .i64 (n : Int) ∧ v43 = .int .i64 (k : Int) ∧ putUp s.data.toList A l k = (L, n) ∧ k ≤ A.length ∧ g = A.length - k ∧ Below B w W ∧ B ≤ W.heap.size ∧ Lib.IsBuilderF 82 5 B B (Lib.byteCells L) W
theorem cells_snoc (L : List UInt8) (s : ByteArray) : Lib.byteCells L ++ Lib.strCells s = Lib.byteCells (L ++ s.data.toList) := by rw [Lib.strCells_eq, Lib.byteCells_append]

set_option maxHeartbeats 16000000 in
theorem Put_any (s : ByteArray) (hs : s.size ≤ 900000) (l : List Ad) (v : Value) (w : World) (hrow : ARow w v l) (hl : l.length ≤ 1000) (hA : ∀ a ∈ l, a.1.length ≤ 1000 ∧ a.2.length ≤ 1000) (hE : Env w) :
    Calls Tryz.prog 24 #[.string s, v] w fun e w' => e = .returned (.tuple #[.string ⟨(putL s.data.toList l).1.toArray⟩, .int .i64 ((putL s.data.toList l).2 : Int)]) ∧ Below w.heap.size w w' := by
  have HB := Lib.hid (Find_row s (by omega) w hE)
  have hlen := find_len s.data.toList
  have hgood := findL_good s.data.toList
  obtain ⟨F, hF⟩ : ∃ F, findL s.data.toList = F := ⟨_, rfl⟩
  rw [hF] at HB hlen hgood
  obtain ⟨A, ea⟩ := F
  have hp := putL_of (l := l) hF
  obtain ⟨R, hR⟩ : ∃ R, R = putL s.data.toList l := ⟨_, rfl⟩
  rw [← hR] at hp ⊢
  have HP := Lib.hid hp
  have HG := Lib.hid hgood
  have HROW := Lib.hid hrow
  have HE := Lib.hid hE
  clear hp hgood hF hR hE
  obtain ⟨r1, r2⟩ := R
  simp only at HB HG hlen ⊢
  have HCO := Lib.hid (fun W (hb : Below w.heap.size w W) => Contains_addr l v W (hrow.below hb) (by omega) (fun a ha => by have := hA a ha; omega) (HE.out.below hb))
  obtain ⟨M, hM⟩ : ∃ M, M = l.any fun a => !mayL a := ⟨_, rfl⟩
  rw [← hM] at HP HCO
  clear hM
  obtain ⟨p, cap, rfl, -⟩ := hrow
  go_enter Tryz.func24, Tryz.ntmps24
  go_wp2_with fail
  refine HB.out.mono ?_
  rintro e w1 ⟨vb, rfl, hrb, hb1⟩
  have HS1 := Lib.hid hrb
  have HB1 := Lib.hid hb1
  obtain ⟨pb, capb, rfl, -⟩ := hrb
  clear hb1
  go_wp2_with fail
  refine (HCO.out _ HB1.out).mono ?_
  rintro e w3 ⟨rfl, hb3⟩
  have HBR := Lib.hid (HB1.out.trans (hb3.mono HB1.out.size))
  have HS := Lib.hid (HS1.out.below hb3)
  clear hb3 HS1 HCO HB HB1
  by_cases h5 : ea = 5
  · subst h5
    have hP := HP.out
    rw [if_pos rfl] at hP
    injection hP with q1 q2
    subst q1; subst q2
    go_wp2
    go_ret2
    exact ⟨rfl, HBR.out⟩
  · have he5 : ((ea : Int) == 5) = false := by rw [beq_eq_false_iff_ne]; omega
    have hP := HP.out
    rw [if_neg h5] at hP
    have HP := Lib.hid hP
    clear h5 hP
    cases M with
    | true =>
      have hP := HP.out
      simp only [if_true] at hP
      injection hP with q1 q2
      subst q1; subst q2
      go_wp2
      go_ret2
      exact ⟨rfl, HBR.out⟩
    | false =>
      have hP := HP.out
      simp only [Bool.false_eq_true, if_false] at hP
      have HP := Lib.hid hP
      clear hP
      by_cases h0 : ea = 0
      · subst h0
        have hP := HP.out
        rw [if_neg (by simp)] at hP
        have HP := Lib.hid hP
        clear hP
        by_cases hn : l.length = A.length
        · have hnn : ((l.length : Int) != (A.length : Int)) = false := by rw [bne_eq_false_iff_eq]; omega
          have hP := HP.out
          rw [if_neg (by simp [hn])] at hP
          have HP := Lib.hid hP
          have HN := Lib.hid hn
          clear hP hn
          have hbW := HBR.out
          have hst0 : Lib.IsBuilderF 82 5 w3.heap.size w3.heap.size (Lib.byteCells []) (w3.alloc (.cells #[.pointer none, .slice none 0 0] 82)) :=
            .inl ⟨Nat.le_refl _, .slice none 0 0, heap_alloc_new w3 _, ⟨rfl, .inl ⟨rfl, rfl⟩⟩, by simp [Value.ownBlock]⟩
          have HST := Lib.hid hst0
          clear hst0 hbW
          go_wp2_with fail
          go_loopg [10, 43] A.length (fun g v10 v43 W => WRel s A l w3 w3.heap.size g v10 v43 W)
          case atStart => exact ⟨0, 0, [], rfl, rfl, rfl, Nat.zero_le _, rfl, alloc_below _ _, by rw [World.size_alloc]; omega, HST.out⟩
          case round =>
            obtain ⟨k, n, L, rfl, rfl, hup, hk, hg, hb, hsz, hbu⟩ := hrel
            have HUP := Lib.hid hup
            have HG2 := Lib.hid hg
            have HB2 := Lib.hid hb
            have HBU := Lib.hid hbu
            have HSZ := Lib.hid hsz
            have hZ0 : L.length ≤ 120000000 := by
              have h1 := putUp_len (s := s.data.toList) (sp := A) (l := l) (T := 3003) (fun a ha => by have := text_len_le a; have := hA a ha; omega) k
              rw [hup] at h1
              simp only [size_list] at h1
              have h2 : k * (2 * s.size + 3003) ≤ 64 * (2 * 900000 + 3003) := Nat.mul_le_mul (by omega) (by omega)
              omega
            have hat := putUp_at HG.out HN.out k hk
            rw [hup, size_list] at hat
            simp only at hat
            have HAT := Lib.hid hat.1
            clear hg hb hup hbu hsz
            have hbr := HBR.out.trans (HB2.out.mono HBR.out.size)
            have HBW := Lib.hid hbr
            by_cases hlt : k < A.length
            · have hk0 : (0 : Int) ≤ (k : Int) := by omega
              have hk1 : (k : Int) < (A.length : Int) := by omega
              have hk2 : (k : Int) < (l.length : Int) := by have := HN.out; omega
              have hwk : IntKind.i64.wrap ((k : Int) + 1) = (k : Int) + 1 := by rw [IntKind.wrap_i64]; omega
              obtain ⟨p', cap', he, h⟩ := HROW.out.below HBR.out
              obtain rfl : cap = cap' := by injection he
              obtain rfl : p = p' := by injection he
              have hlk : k < l.length := by have := HN.out; omega
              obtain ⟨bb, hpb, hc⟩ := arow_at h hlk
              subst hpb
              clear he
              obtain ⟨pb', capb', he, h'⟩ := HS.out.below HB2.out
              obtain rfl : capb = capb' := by injection he
              obtain rfl : pb = pb' := by injection he
              obtain ⟨ba, hpb, hc'⟩ := srow_at h' hlt
              subst hpb
              clear he
              have had := hc k _ (List.getElem?_eq_getElem hlk)
              obtain ⟨c0, c1, c2, c3⟩ := hc' k _ (List.getElem?_eq_getElem hlt)
              have hmem := hA _ (List.getElem_mem hlk)
              have hst := putUp_step (s := s.data.toList) (List.getElem?_eq_getElem hlt) (List.getElem?_eq_getElem hlk)
              have hsg := HG.out.each A[k] (List.getElem_mem hlt)
              have h1 := hat.2 k _ (Nat.le_refl _) (List.getElem?_eq_getElem hlt)
              have h2 := hsg.lt
              have h3 := hsg.le
              have h45 : A[k].2.2.1.length ≤ 1000000 ∧ A[k].2.2.2.length ≤ 1000000 := by
                rw [hsg.rd]
                have q1 := parse_len (slc s.data.toList A[k].1 A[k].2.1)
                have q2 := slc_len s.data.toList A[k].1 A[k].2.1
                rw [size_list] at q2
                simp only
                omega
              rw [HUP.out] at hst
              have HHAD := Lib.hid had
              clear h h' hc hc' hsg hat had
              generalize A[k] = x at *
              generalize l[k] = a at *
              obtain ⟨f, t, lo, dm⟩ := x
              obtain ⟨xl, xd⟩ := a
              simp only [size_list] at h1 h2 h3 h45 hst c0 c1 c2 c3 HHAD hmem
              have HST := Lib.hid hst
              have i1 : (n : Int) ≤ (f : Int) := by omega
              have i2 : (f : Int) ≤ (t : Int) := by omega
              have i3 : (t : Int) ≤ (s.size : Int) := by omega
              have i4 : (f : Int) ≤ (s.size : Int) := by omega
              have i5 : (0 : Int) ≤ (n : Int) := by omega
              have i6 : (0 : Int) ≤ (f : Int) := by omega
              have l1 : Lib.byteCells L ++ Lib.strCells (s.extract n f) = Lib.byteCells (L ++ slc s.data.toList n f) := by rw [cells_snoc, ext_list s n f (by omega)]
              have l2 : Lib.byteCells (L ++ slc s.data.toList n f) ++ Lib.strCells (s.extract f t) = Lib.byteCells (L ++ slc s.data.toList n f ++ slc s.data.toList f t) := by rw [cells_snoc, ext_list s f t (by omega)]
              have l3 : Lib.byteCells (L ++ slc s.data.toList n f) ++ Lib.strCells ⟨(textL (xl, xd)).toArray⟩ = Lib.byteCells (L ++ slc s.data.toList n f ++ textL (xl, xd)) := by rw [cells_snoc]
              have L1 := Lib.hid l1
              have L2 := Lib.hid l2
              have L3 := Lib.hid l3
              have s1 : (L ++ slc s.data.toList n f).length ≤ 121000000 := by have := slc_len s.data.toList n f; rw [size_list] at this; rw [List.length_append]; omega
              have HC := Lib.hid (fun W => SameA_any ⟨lo.toArray⟩ ⟨dm.toArray⟩ ⟨xl.toArray⟩ ⟨xd.toArray⟩ (by show lo.length ≤ _; omega) (by show dm.length ≤ _; omega) (by show xl.length ≤ _; omega) (by show xd.length ≤ _; omega) W)
              have HORD := Lib.hid (show ordS ⟨lo.toArray⟩ ⟨dm.toArray⟩ ⟨xl.toArray⟩ ⟨xd.toArray⟩ = ordL (normL (lo, dm)) (normL (xl, xd)) from rfl)
              generalize ordS ⟨lo.toArray⟩ ⟨dm.toArray⟩ ⟨xl.toArray⟩ ⟨xd.toArray⟩ = r at HC HORD
              obtain ⟨bs, hbs⟩ : ∃ bs, bs = decide (r = 0) := ⟨_, rfl⟩
              rw [← hbs] at HC
              have HBS := Lib.hid hbs
              clear hbs
              have HT := Lib.hid (fun W (hE : Env W) => Text_any (xl, xd) (by show xl.length ≤ _; omega) (by show xd.length ≤ _; omega) W hE)
              simp only [addrV] at HT
              have htl : (textL (xl, xd)).length ≤ 3003 := by have := text_len_le (xl, xd); simp only at this; omega
              have HTL := Lib.hid htl
              clear hst l1 l2 l3 hmem h1 h2 h3 htl
              generalize hlo : (⟨lo.toArray⟩ : ByteArray) = Xl at c2 HC
              generalize hdm : (⟨dm.toArray⟩ : ByteArray) = Xd at c3 HC
              have hC := SpBlk.made wr (f : Int) (t : Int) Xl Xd
              have hbN := alloc_below wr (.cells #[.int .i64 (f : Int), .int .i64 (t : Int), .string Xl, .string Xd] 32)
              have HBU2 := Lib.hid (HBU.out.alloc (.cells #[.int .i64 (f : Int), .int .i64 (t : Int), .string Xl, .string Xd] 32))
              have HCb := Lib.hid hC
              have HBN := Lib.hid hbN
              have hcell := hC.cells
              have hsz2 : (wr.alloc (.cells #[.int .i64 (f : Int), .int .i64 (t : Int), .string Xl, .string Xd] 32)).heap.size = wr.heap.size + 1 := World.size_alloc _ _
              have HSZ2 := Lib.hid hsz2
              obtain ⟨y0, y1, y2, y3⟩ := hcell
              have i7 : w3.heap.size ≤ (wr.alloc (.cells #[.int .i64 (f : Int), .int .i64 (t : Int), .string Xl, .string Xd] 32)).heap.size := by rw [hsz2]; exact Nat.le_succ_of_le HSZ.out
              have hCne : wr.heap.size ≠ w3.heap.size := by
                have h := builder_lt HBU.out
                omega
              have HCN := Lib.hid hCne
              have hlen1 : (Lib.byteCells L).length + (s.extract n f).size ≤ 140737488355328 := by rw [Lib.byteCells_length, ByteArray.size_extract]; omega
              have HW1 := Lib.hid (Tryz.WriteString_k w3.heap.size w3.heap.size _ (s.extract n f) _ HBU2.out hlen1 i7)
              clear hC hbN hsz2 hlo hdm hCne hlen1
              go_wp2_with fail
              generalize hwx : wr.alloc (.cells #[.int .i64 (f : Int), .int .i64 (t : Int), .string Xl, .string Xd] 32) = wx at *
              have I7 := Lib.hid i7
              clear hwx i7
              refine HW1.out.mono ?_
              rintro e w4 ⟨rfl, hat4, hb4, hk4⟩
              have HAT4 := Lib.hid hat4
              have hw4 : Below w3.heap.size w3 w4 := (HB2.out.trans (HBN.out.mono HSZ.out)).trans hb4
              have HB4 := Lib.hid hw4
              have hC4 := HCb.out.kept hk4 HCN.out
              have HC4 := Lib.hid hC4
              have hB4 : Lib.IsBuilderF 82 5 w3.heap.size w3.heap.size (Lib.byteCells (L ++ slc s.data.toList n f)) w4 := by rw [← L1.out]; exact .inr hat4
              have HBD4 := Lib.hid hB4
              have hS4 := HHAD.out.below hw4
              obtain ⟨g0, g1⟩ := hS4
              obtain ⟨z0, z1, z2, z3⟩ := hC4.cells
              have HLT1 := Lib.hid hC4.lt
              have HLT2 := Lib.hid (World.block_lt_of_cell? _ _ g0)
              have HSZ4 := Lib.hid (Nat.le_of_lt (builder_lt hB4))
              have hS : w4.cell? ⟨wr.heap.size, 2, none⟩ = some (.string Xl) ∧ w4.cell? ⟨wr.heap.size, 3, none⟩ = some (.string Xd) ∧ w4.cell? ⟨bb, k * 2, none⟩ = some (.string ⟨xl.toArray⟩) ∧ w4.cell? ⟨bb, k * 2 + 1, none⟩ = some (.string ⟨xd.toArray⟩) := ⟨z2, z3, g0, g1⟩
              clear hat4 hb4 hk4 hw4 hC4 hB4 y0 y1 y2 y3 c0 c1 c2 c3
              go_wp2_with fail
              go_region_held3 (fun W => W.cell? ⟨wr.heap.size, 2, none⟩ = some (.string Xl) ∧ W.cell? ⟨wr.heap.size, 3, none⟩ = some (.string Xd) ∧ W.cell? ⟨bb, k * 2, none⟩ = some (.string ⟨xl.toArray⟩) ∧ W.cell? ⟨bb, k * 2 + 1, none⟩ = some (.string ⟨xd.toArray⟩))
                (first | exact hS7 | exact hS | go_keep)
                (first | ((with_reducible refine (HC.out _).mono ?_); rintro e w7 ⟨rfl, hb7⟩; have hb7' := (drew_below w4).trans hb7; have hS7 : w7.cell? ⟨wr.heap.size, 2, none⟩ = some (.string Xl) ∧ w7.cell? ⟨wr.heap.size, 3, none⟩ = some (.string Xd) ∧ w7.cell? ⟨bb, k * 2, none⟩ = some (.string ⟨xl.toArray⟩) ∧ w7.cell? ⟨bb, k * 2 + 1, none⟩ = some (.string ⟨xd.toArray⟩) := ⟨(hb7'.cell (p := ⟨wr.heap.size, 2, none⟩) HLT1.out).trans hS.1, (hb7'.cell (p := ⟨wr.heap.size, 3, none⟩) HLT1.out).trans hS.2.1, (hb7'.cell (p := ⟨bb, k * 2, none⟩) HLT2.out).trans hS.2.2.1, (hb7'.cell (p := ⟨bb, k * 2 + 1, none⟩) HLT2.out).trans hS.2.2.2⟩))
              have HB7 := Lib.hid (HB4.out.trans (hb7'.mono HSZ4.out))
              have HBD7 := Lib.hid (builder_keeps HBD4.out hb7')
              have HC7 := Lib.hid (HC4.out.below hb7')
              have HSZ7 := Lib.hid (Nat.le_of_lt (builder_lt HBD7.out))
              clear hb7 hb7' hS hS7 z0 z1 z2 z3 g0 g1
              cases bs with
              | true =>
                have hr0 : r = 0 := by simpa using HBS.out.symm
                have HR0 := Lib.hid (show ordL (normL (lo, dm)) (normL (xl, xd)) = 0 by rw [← HORD.out]; exact hr0)
                have hlen2 : (Lib.byteCells (L ++ slc s.data.toList n f)).length + (s.extract f t).size ≤ 140737488355328 := by rw [Lib.byteCells_length, ByteArray.size_extract]; omega
                have HW2 := Lib.hid (Tryz.WriteString_k w3.heap.size w3.heap.size _ (s.extract f t) _ HBD7.out hlen2 HSZ7.out)
                obtain ⟨z0, z1, z2, z3⟩ := HC7.out.cells
                clear hr0 hlen2
                go_wp2_with fail
                refine HW2.out.mono ?_
                rintro e w8 ⟨rfl, hat8, hb8, -⟩
                have HAT8 := Lib.hid hat8
                have HB8 := Lib.hid (HB7.out.trans hb8)
                have hB8 : Lib.IsBuilderF 82 5 w3.heap.size w3.heap.size (Lib.byteCells (L ++ slc s.data.toList n f ++ slc s.data.toList f t)) w8 := by rw [← L2.out]; exact .inr hat8
                have HBD8 := Lib.hid hB8
                clear hat8 hb8 hB8 z0 z1 z2 z3
                go_wp2_with fail
                go_roundg (A.length - (k + 1))
                case rel =>
                  refine ⟨k + 1, t, _, rfl, by go_num, ?_, by omega, rfl, HB8.out, Nat.le_of_lt (builder_lt HBD8.out), HBD8.out⟩
                  rw [HST.out, if_pos HR0.out]
                case measure => have := HG2.out; omega
              | false =>
                have hr0 : ¬ r = 0 := by simpa using HBS.out.symm
                have HR0 := Lib.hid (show ¬ ordL (normL (lo, dm)) (normL (xl, xd)) = 0 by rw [← HORD.out]; exact hr0)
                have had7 := HHAD.out.below HB7.out
                obtain ⟨g0, g1⟩ := had7
                have hlen2 : (Lib.byteCells (L ++ slc s.data.toList n f)).length + (⟨(textL (xl, xd)).toArray⟩ : ByteArray).size ≤ 140737488355328 := by rw [Lib.byteCells_length]; have := HTL.out; show _ + (textL (xl, xd)).length ≤ _; omega
                have HW2 := Lib.hid (fun W h1 h2 => Tryz.WriteString_k w3.heap.size w3.heap.size _ ⟨(textL (xl, xd)).toArray⟩ W h1 hlen2 h2)
                have HE7 := Lib.hid (HE.out.below (HBR.out.trans (HB7.out.mono HBR.out.size)))
                rw [L3.out] at HW2
                generalize (⟨(textL (xl, xd)).toArray⟩ : ByteArray) = T at HT HW2 hlen2
                clear hr0 hlen2
                go_wp2_with fail
                refine (HT.out _ HE7.out).mono ?_
                rintro e w8 ⟨rfl, hb8⟩
                have HB8 := Lib.hid (HB7.out.trans (hb8.mono HSZ7.out))
                have HBD8 := Lib.hid (builder_keeps HBD7.out hb8)
                have HSZ8 := Lib.hid (Nat.le_of_lt (builder_lt HBD8.out))
                clear hb8 g0 g1
                go_wp2_with fail
                refine (HW2.out _ HBD8.out HSZ8.out).mono ?_
                rintro e w9 ⟨rfl, hat9, hb9, -⟩
                have HB9 := Lib.hid (HB8.out.trans hb9)
                have HAT9 := Lib.hid hat9
                clear hat9 hb9
                go_wp2_with fail
                go_roundg (A.length - (k + 1))
                case rel =>
                  refine ⟨k + 1, t, _, rfl, by go_num, ?_, by omega, rfl, HB9.out, Nat.le_of_lt (builder_lt (.inr HAT9.out)), .inr HAT9.out⟩
                  rw [HST.out, if_neg HR0.out]
                case measure => have := HG2.out; omega
            · have hge : ¬ (k : Int) < (A.length : Int) := by omega
              obtain rfl : k = A.length := by omega
              have hP := HP.out
              rw [HUP.out] at hP
              simp only at hP
              injection hP with q1 q2
              subst q2
              have i1 : (n : Int) ≤ (s.size : Int) := by have := HAT.out; omega
              have i0 : (0 : Int) ≤ (n : Int) := by omega
              obtain ⟨Z0, hZ⟩ : ∃ Z0 : ByteArray, Z0 = ⟨L.toArray⟩ := ⟨_, rfl⟩
              obtain ⟨Z, hZ2⟩ : ∃ Z : ByteArray, Z = ⟨r1.toArray⟩ := ⟨_, rfl⟩
              have hz : Z = Z0 ++ s.extract n s.size := by
                apply ByteArray.ext
                rw [hZ2, hZ, q1]
                apply Array.ext'
                have e2 : slc s.data.toList n s.size = s.data.toList.drop n := by unfold slc; rw [List.take_of_length_le (by simp)]
                rw [ByteArray.data_append, Array.toList_append, ext_list s n s.size (Nat.le_refl _), e2]
              have a1 := add_run hz (by rw [hZ, ByteArray.size_extract]; show L.length + _ ≤ _; omega)
              have hstr := Tryz.Builder_String_any_k w3.heap.size w3.heap.size L wr.drew HBU.out HSZ.out
              rw [← hZ] at hstr
              have HSTR := Lib.hid hstr
              have HZ := Lib.hid hZ2
              clear hstr hz hZ hZ2 q1
              go_wp2_with fail
              go_region_held3 (fun W => True) (exact trivial) (first | ((with_reducible refine HSTR.out.mono ?_); rintro e w5 ⟨rfl, -, hb5, -⟩))
              go_wp2
              go_ret2
              exact ⟨by rw [← HZ.out]; rfl, (HBW.out.trans ((drew_below wr).mono HBW.out.size)).trans (hb5.mono HBR.out.size)⟩
        · have hnn : ((l.length : Int) != (A.length : Int)) = true := by rw [bne_iff_ne]; omega
          have hP := HP.out
          rw [if_pos hn] at hP
          injection hP with q1 q2
          subst q1; subst q2
          clear hn
          go_wp2
          go_ret2
          exact ⟨rfl, HBR.out⟩
      · have he0 : ((ea : Int) == 0) = false := by rw [beq_eq_false_iff_ne]; omega
        have he1 : ((ea : Int) != 0) = true := by rw [bne_iff_ne]; omega
        have hP := HP.out
        rw [if_pos h0] at hP
        injection hP with q1 q2
        subst q1; subst q2
        clear h0
        go_wp2
        go_ret2
        exact ⟨rfl, HBR.out⟩
end Go.Proofs.YtffngbjnbigipaaGreatDoor

/- The law ListForms, walked: it returns true for whatever addresses and forms. -/
namespace Go.Proofs.YtffngbjnbigipaaGreatDoor
open Go.RowKit Go.Lib
set_option linter.unusedSimpArgs false
set_option linter.unusedVariables false
set_option linter.unnecessarySimpa false
set_option maxRecDepth 100000

theorem ba_of {s : ByteArray} {l : List UInt8} (h : s.data.toList = l) : s = ⟨l.toArray⟩ := by
  apply ByteArray.ext
  apply Array.ext'
  rw [h]
theorem cells4s (w : World) (a b c d : Value) (t : TypeId) : ∀ (j : Nat) (u : Value), [a, b, c, d][j]? = some u → (w.alloc (.cells #[a, b, c, d] t)).cell? ((⟨w.heap.size, 0, none⟩ : Addr).add j) = some u := by
  intro j u h
  match j, h with
  | 0, h => simp at h; subst h; simp [Addr.add]
  | 1, h => simp at h; subst h; simp [Addr.add]
  | 2, h => simp at h; subst h; simp [Addr.add]
  | 3, h => simp at h; subst h; simp [Addr.add]
  | n + 4, h => simp at h
/-- one address appended two times to a row of the call's own. -/
theorem app_two (w : World) (B : Nat) (v : Value) (n : Nat) (xs : List Value) (hown : w.ownsRow B 30 2 v n xs) (x y : ByteArray) (hlen : n + 2 ≤ 2000000) (hbase : B ≤ w.heap.size) :
    ∃ g cap w', (Builtin.append_ #[48, 48] 48 #[v, .slice (some ⟨w.heap.size, 0, none⟩) 2 2]).run Tryz.prog (w.alloc (.cells #[.string x, .string y, .string x, .string y] 30)) = .ok (.slice (some ⟨g, 0, none⟩) (n + 2) cap) w' ∧
      w'.ownsRow B 30 2 (.slice (some ⟨g, 0, none⟩) (n + 2) cap) (n + 2) (xs ++ [.string x, .string y, .string x, .string y]) ∧ Below B w w' := by
  obtain ⟨i0, hi, hz0, hz1, hz2⟩ := info_parts info30
  obtain ⟨v', w', hrun, hown', hgr, _⟩ := run_append_own (w.alloc (.cells #[.string x, .string y, .string x, .string y] 30)) B 48 48 30 i0 _ 2 32 Tryz.underlying48 hi hz0 hz1 hz2 rfl (by decide) v n xs (hown.alloc _) ⟨w.heap.size, 0, none⟩ 2 2 [.string x, .string y, .string x, .string y] rfl (cells4s w _ _ _ _ 30) (by intro u hu; simp at hu; rcases hu with rfl | rfl | rfl | rfl <;> rfl) (by unfold maxLen; omega) (by omega) (by rw [World.size_alloc]; omega)
  have hb : ∀ k, v.ownBlock = some k → B ≤ k := by
    intro k hk
    obtain ⟨_, ⟨rfl, _⟩ | ⟨g', cap', cur, rfl, hg, _⟩⟩ := hown
    · simp [Value.ownBlock] at hk
    · simp only [Value.ownBlock, Option.some.injEq] at hk
      omega
  have hB : Below B w w' := (((Below.refl B w).alloc hbase _)).grown hgr (by rw [World.size_alloc]; omega) hb
  have h2 := hown'
  obtain ⟨_, ⟨_, h0⟩ | ⟨g, cap, cur, rfl, _⟩⟩ := h2
  · omega
  · exact ⟨g, cap, w', hrun, hown', hB⟩
theorem want_take (F : Nat) (l : List Ad) (k : Nat) (a : Ad) (h : l[k]? = some a) : wantL F (l.take (k + 1)) = wantL F (l.take k) ++ wantF (formN F k) a := by
  obtain ⟨hk, he⟩ := List.getElem?_eq_some_iff.1 h
  rw [List.take_succ_eq_append_getElem hk, he, want_snoc, List.length_take]
  congr 3
  omega
theorem want_len (F : Nat) : ∀ (l : List Ad), (wantL F l).length ≤ 2 * l.length := by
  intro l
  have : ∀ (n : Nat) (l : List Ad), l.length = n → (wantL F l).length ≤ 2 * l.length := by
    intro n
    induction n with
    | zero => intro l h; have : l = [] := List.eq_nil_of_length_eq_zero h; subst this; simp [wantL]
    | succ n ih =>
      intro l h
      have hne : l ≠ [] := by rintro rfl; simp at h
      obtain ⟨l', a, rfl⟩ : ∃ l' a, l = l' ++ [a] := ⟨l.dropLast, l.getLast hne, (List.dropLast_concat_getLast hne).symm⟩
      have h1 := ih l' (by simpa using h)
      have h2 := wantF_len (formN F l'.length) a
      rw [want_snoc, List.length_append, List.length_append]
      simp only [List.length_cons, List.length_nil]
      omega
  exact this _ l rfl
def FoRel (w : World) (F : Nat) (l : List Ad) (g : Nat) (v5 v17 : Value) (W : World) : Prop :=
  ∃ (k : Nat) (v : Value), v17 = .int .i64 (k : Int) ∧ v = v5 ∧ k ≤ l.length ∧ g = l.length - k ∧ W.ownsRow w.heap.size 30 2 v (wantL F (l.take k)).length (adsC (wantL F (l.take k))) ∧ Below w.heap.size w W
def FpRel (w : World) (n : Nat) (g : Nat) (v61 : Value) (W : World) : Prop := ∃ k : Nat, v61 = .int .i64 (k : Int) ∧ k ≤ n ∧ g = n - k ∧ Below w.heap.size w W
set_option maxHeartbeats 16000000 in
theorem forms_any (v : Value) (m F : Nat) (X Y : Nat → ByteArray) (w : World) (h : InRow w v m X Y) (hm : m ≤ 9223372036854775807) (hF : F < 4294967296) (hE : Env w) (hT : Lib.Utf8Tabs 4 5 w) :
    Calls Tryz.prog 6 #[v, .int .u32 (F : Int)] w fun e w' => e = .returned (.bool true) ∧ Below w.heap.size w w' := by
  have HMADE := Lib.hid (made_any v m 10 X Y w h hm (by omega) hT)
  have HE := Lib.hid hE
  clear h hE hT
  go_enter Tryz.func6, Tryz.ntmps6
  go_wp2_with fail
  refine HMADE.out.mono ?_
  rintro e w1 ⟨v1, rfl, l, hrow, hl, hM, hb1⟩
  have HROW := Lib.hid hrow
  have HM := Lib.hid hM
  have HB1 := Lib.hid hb1
  have HE1 := Lib.hid (HE.out.below hb1)
  have hl10 : l.length ≤ 10 := by omega
  clear hl hM hb1 HMADE
  obtain ⟨p, cap, rfl, -⟩ := hrow
  go_wp2_with fail
  go_loopg [5, 17] l.length (fun g v5 v17 W => FoRel w1 F l g v5 v17 W)
  case atStart => exact ⟨0, _, rfl, rfl, Nat.zero_le _, rfl, World.ownsRow_nil _ _ _ _, Below.refl _ _⟩
  case round =>
    obtain ⟨k, v5, rfl, rfl, hk, hg, hown, hb⟩ := hrel
    have HG := Lib.hid hg
    have HB := Lib.hid hb
    have HO := Lib.hid hown
    clear hg hb hown
    by_cases hlt : k < l.length
    · have hk0 : (0 : Int) ≤ (k : Int) := by omega
      have hk1 : (k : Int) < (l.length : Int) := by omega
      have hwk : IntKind.i64.wrap ((k : Int) + 1) = (k : Int) + 1 := by rw [IntKind.wrap_i64]; omega
      have hr := HROW.out.below HB.out
      obtain ⟨p', cap', he, h | ⟨b, hp, h⟩⟩ := hr
      · rw [h] at hlt; simp at hlt
      obtain rfl : cap = cap' := by injection he
      obtain rfl : p = p' := by injection he
      subst hp
      clear he
      obtain ⟨c0, c1⟩ := h k _ (List.getElem?_eq_getElem hlt)
      have HK := Lib.hid (show l[k]? = some l[k] from List.getElem?_eq_getElem hlt)
      generalize l[k] = a at c0 c1 HK
      clear h
      have HW := Lib.hid (want_take F l k a HK.out)
      have hwl := want_len F (l.take k)
      have hwl2 : (wantL F (l.take k)).length ≤ 20 := by rw [List.length_take] at hwl; omega
      clear hwl
      obtain ⟨x, y⟩ := a
      simp only at c0 c1
      generalize hx : (⟨x.toArray⟩ : ByteArray) = xb at c0
      generalize hy : (⟨y.toArray⟩ : ByteArray) = yb at c1
      have ht1 := Two.made wr (.string xb) (.string yb) 30
      have hb2 := alloc_below wr (.cells #[.string xb, .string yb] 30)
      generalize hw2 : wr.alloc (.cells #[.string xb, .string yb] 30) = w2 at ht1 hb2
      obtain ⟨-, d0, d1, f0, f1⟩ := ht1
      have hbits := form_bits F k hF
      have hf8 : formN F k < 8 := Nat.mod_lt _ (by decide)
      have ho2 := own_below HO.out hb2
      have hsz2 : w1.heap.size ≤ w2.heap.size := Nat.le_trans HB.out.size hb2.size
      have HB2 := Lib.hid (HB.out.trans (hb2.mono HB.out.size))
      have HXY := Lib.hid (And.intro hx hy)
      generalize formN F k = f at hbits hf8 HW
      clear hx hy hb2
      by_cases h6 : f = 6
      · subst h6
        have e6 : wantF 6 (x, y) = [(x, y), (x, y)] := rfl
        obtain ⟨g, cap', wa, hrun, hown', hbB⟩ := app_two w2 _ v5 _ _ ho2 xb yb (by omega) hsz2
        have HO3 := Lib.hid hown'
        have HB3 := Lib.hid (HB2.out.trans hbB)
        clear hown' hbB ho2
        go_wp2_with (at_builtin; refine app_run rfl _ _ 48 rfl rfl _ _ _ _ rfl rfl hrun ?_)
        go_roundg (l.length - (k + 1))
        case rel =>
          refine ⟨k + 1, _, by go_num, rfl, by omega, rfl, ?_, HB3.out⟩
          rw [HW.out, e6, List.length_append]
          have e : adsC (wantL F (l.take k) ++ [(x, y), (x, y)]) = adsC (wantL F (l.take k)) ++ [.string xb, .string yb, .string xb, .string yb] := by
            unfold adsC
            rw [List.flatMap_append]
            simp [adC, HXY.out.1, HXY.out.2]
          rw [e]
          exact HO3.out
        case measure => have := HG.out; omega
      · have h6' : ((f : Int) == 6) = false := by rw [beq_eq_false_iff_ne]; omega
        by_cases h7 : f = 7
        · subst h7
          have e7 : wantF 7 (x, y) = [] := rfl
          have HO2 := Lib.hid ho2
          clear ho2 h6'
          go_wp2_with fail
          go_roundg (l.length - (k + 1))
          case rel =>
            refine ⟨k + 1, _, by go_num, rfl, by omega, rfl, ?_, HB2.out⟩
            rw [HW.out, e7, List.append_nil]
            exact HO2.out
          case measure => have := HG.out; omega
        · have h7' : ((f : Int) == 7) = false := by rw [beq_eq_false_iff_ne]; omega
          have e8 : wantF f (x, y) = [(x, y)] := by unfold wantF; rw [if_neg h6, if_neg h7]
          obtain ⟨g, cap', wa, hrun, hown', hbB, -⟩ := app_ad 48 30 Tryz.underlying48 info30 w2 _ v5 _ _ ho2 xb yb (by omega) hsz2
          have HO3 := Lib.hid hown'
          have HB3 := Lib.hid (HB2.out.trans hbB)
          clear hown' hbB ho2 h6 h7
          go_wp2_with (at_builtin; refine app_run rfl _ _ 48 rfl rfl _ _ _ _ rfl rfl hrun ?_)
          go_roundg (l.length - (k + 1))
          case rel =>
            refine ⟨k + 1, _, by go_num, rfl, by omega, rfl, ?_, HB3.out⟩
            rw [HW.out, e8, List.length_append]
            have e : adsC (wantL F (l.take k) ++ [(x, y)]) = adsC (wantL F (l.take k)) ++ [.string xb, .string yb] := by
              unfold adsC
              rw [List.flatMap_append]
              simp [adC, HXY.out.1, HXY.out.2]
            rw [e]
            exact HO3.out
          case measure => have := HG.out; omega
    · obtain rfl : k = l.length := by omega
      have hge : ¬ ((l.length : Nat) : Int) < ((l.length : Nat) : Int) := by omega
      have ho := HO.out
      rw [List.take_of_length_le (Nat.le_refl _)] at ho
      have HWR := Lib.hid (ARow.of ho)
      have HLN := Lib.hid (line_any (.slice p l.length cap) l F wr (HROW.out.below HB.out) (by omega) hF HM.out (HE1.out.below HB.out))
      have HFND := Lib.hid (forms_law F l (fun a ha => (HM.out a ha).1) (by omega))
      have hWl := want_len F l
      have hSl : (join (partsL F l) [44]).length ≤ 2000 := by
        have h1 := join_le (partsL F l) (parts_len F l HM.out)
        have h2 : (partsL F l).length = l.length := by simp [partsL]
        omega
      clear ho HO
      generalize wantL F l = WL at HWR HFND hWl ⊢
      generalize hS0 : join (partsL F l) [44] = S at HLN HFND hSl
      clear hS0
      obtain ⟨sp, hsp, hmap, hall⟩ := HFND.out
      have hspl : sp.length = WL.length := by rw [← hmap, List.length_map]
      have HALL := Lib.hid hall
      have HLEN := Lib.hid (show ∀ x ∈ sp, x.2.2.1.length ≤ 2000 ∧ x.2.2.2.length ≤ 2000 from fun x hx => by
        have hgd := findL_good S
        rw [hsp] at hgd
        rw [(hgd.each x hx).rd]
        have q1 := parse_len (slc S x.1 x.2.1)
        have q2 := slc_len S x.1 x.2.1
        simp only
        omega)
      have HMAP := Lib.hid hmap
      have HFD := Lib.hid (fun W (hE : Env W) => Find_row ⟨S.toArray⟩ (by show S.length ≤ _; omega) W hE)
      rw [show (⟨S.toArray⟩ : ByteArray).data.toList = S from rfl, hsp] at HFD
      clear hall hmap hsp HFND
      obtain ⟨pw, cw, hv5, -⟩ := HWR.out
      subst hv5
      have HBL := Lib.hid HB.out
      clear HB
      go_wp2_with fail
      refine HLN.out.mono ?_
      rintro e w2 ⟨rfl, hb2⟩
      have HSZ1 := Lib.hid HBL.out.size
      have HB2 := Lib.hid (HBL.out.trans (hb2.mono HBL.out.size))
      have HWR2 := Lib.hid (HWR.out.below hb2)
      clear hb2 HLN
      go_wp2_with fail
      refine (HFD.out _ (HE1.out.below HB2.out)).mono ?_
      rintro e w3 ⟨v9, rfl, hsr, hb3⟩
      have HB3 := Lib.hid (HB2.out.trans (hb3.mono HB2.out.size))
      have HWR3 := Lib.hid (HWR2.out.below hb3)
      have HSR := Lib.hid hsr
      obtain ⟨ps, cs, rfl, -⟩ := hsr
      have hne : ((sp.length : Int) != (WL.length : Int)) = false := by rw [bne_eq_false_iff_eq]; omega
      clear hb3 HFD
      go_wp2_with fail
      go_loopg [61] sp.length (fun g v61 W => FpRel w3 sp.length g v61 W)
      case atStart => exact ⟨0, rfl, Nat.zero_le _, rfl, Below.refl _ _⟩
      case round =>
        obtain ⟨k, rfl, hk, hg, hb⟩ := hrel
        have HG := Lib.hid hg
        have HB := Lib.hid hb
        clear hg hb
        by_cases hlt : k < sp.length
        · have hk0 : (0 : Int) ≤ (k : Int) := by omega
          have hk1 : (k : Int) < (sp.length : Int) := by omega
          have hk2 : (k : Int) < (WL.length : Int) := by omega
          have hwk : IntKind.i64.wrap ((k : Int) + 1) = (k : Int) + 1 := by rw [IntKind.wrap_i64]; omega
          obtain ⟨p', cap', he, h⟩ := HWR3.out.below HB.out
          obtain rfl : cw = cap' := by injection he
          obtain rfl : pw = p' := by injection he
          obtain ⟨bb, hpb, hc⟩ := arow_at h (show k < WL.length by omega)
          subst hpb
          clear he
          obtain ⟨pb', capb', he, h'⟩ := HSR.out.below HB.out
          obtain rfl : cs = capb' := by injection he
          obtain rfl : ps = pb' := by injection he
          obtain ⟨ba, hpb, hc'⟩ := srow_at h' hlt
          subst hpb
          clear he h h'
          have hwl : WL[k]? = some sp[k].2.2 := by rw [← HMAP.out, List.getElem?_map, List.getElem?_eq_getElem hlt]; rfl
          have had := hc k _ hwl
          obtain ⟨c0, c1, c2, c3⟩ := hc' k _ (List.getElem?_eq_getElem hlt)
          obtain ⟨a1, a2, a3⟩ := HALL.out _ (List.getElem_mem hlt)
          obtain ⟨z1, z2⟩ := HLEN.out _ (List.getElem_mem hlt)
          generalize sp[k] = x at *
          obtain ⟨f, t, lo, dm⟩ := x
          simp only at a1 a2 a3 c0 c1 c2 c3 had z1 z2
          obtain ⟨d0, d1⟩ := had
          simp only at d0 d1
          have hex : (⟨S.toArray⟩ : ByteArray).extract f t = ⟨(textL (lo, dm)).toArray⟩ := by
            have h1 := ext_list ⟨S.toArray⟩ f t (by show t ≤ S.length; omega)
            rw [show (⟨S.toArray⟩ : ByteArray).data.toList = S from rfl, a3] at h1
            exact ba_of h1
          have HT := Lib.hid (fun W (hE : Env W) => Text_any (lo, dm) (by show lo.length ≤ _; omega) (by show dm.length ≤ _; omega) W hE)
          simp only [addrV] at HT
          have hSz : (⟨S.toArray⟩ : ByteArray).size = S.length := rfl
          generalize (⟨(textL (lo, dm)).toArray⟩ : ByteArray) = T at HT hex
          generalize hlo : (⟨lo.toArray⟩ : ByteArray) = Xl at *
          generalize hdm : (⟨dm.toArray⟩ : ByteArray) = Xd at *
          generalize (⟨S.toArray⟩ : ByteArray) = SB at *
          clear hlo hdm a3 hc hc' hwl z1 z2
          rw [← hSz] at a2
          have a2b : t ≤ SB.size := a2
          clear hSz
          have i0 : (0 : Int) ≤ (f : Int) := by omega
          have i1 : (f : Int) ≤ (t : Int) := by omega
          have i2 : (t : Int) ≤ (SB.size : Int) := by omega
          have n0 : decide ((f : Int) < 0) = false := by rw [decide_eq_false_iff_not]; omega
          have n1 : decide ((SB.size : Int) < (t : Int)) = false := by rw [decide_eq_false_iff_not]; omega
          have n2 : decide ((t : Int) < (f : Int)) = false := by rw [decide_eq_false_iff_not]; omega
          have n3 : ¬ SB.size < t := by omega
          have n4 : ¬ t < f := by omega
          have n5 : decide (SB.size < t) = false := by rw [decide_eq_false_iff_not]; omega
          have n6 : decide (t < f) = false := by rw [decide_eq_false_iff_not]; omega
          have hC := SpBlk.made wr (f : Int) (t : Int) Xl Xd
          have hbN := alloc_below wr (.cells #[.int .i64 (f : Int), .int .i64 (t : Int), .string Xl, .string Xd] 32)
          have hsz2 : wr.heap.size < (wr.alloc (.cells #[.int .i64 (f : Int), .int .i64 (t : Int), .string Xl, .string Xd] 32)).heap.size := by rw [World.size_alloc]; omega
          generalize hwx : wr.alloc (.cells #[.int .i64 (f : Int), .int .i64 (t : Int), .string Xl, .string Xd] 32) = wx at *
          have HBX := Lib.hid (HB.out.trans (hbN.mono HB.out.size))
          have e0 := (hbN.cell (p := ⟨bb, k * 2, none⟩) (World.block_lt_of_cell? _ _ d0)).trans d0
          have e1 := (hbN.cell (p := ⟨bb, k * 2 + 1, none⟩) (World.block_lt_of_cell? _ _ d1)).trans d1
          obtain ⟨y0, y1, y2, y3⟩ := hC.cells
          have HEX := Lib.hid (HE1.out.below (HB3.out.trans (HBX.out.mono HB3.out.size)))
          have l1 := World.block_lt_of_cell? _ _ e0
          have hKS : ∀ W, Below wx.heap.size wx W → (W.cell? ⟨wr.heap.size, 0, none⟩ = some (.int .i64 f) ∧ W.cell? ⟨wr.heap.size, 1, none⟩ = some (.int .i64 t) ∧ W.cell? ⟨wr.heap.size, 2, none⟩ = some (.string Xl) ∧ W.cell? ⟨wr.heap.size, 3, none⟩ = some (.string Xd) ∧ W.cell? ⟨bb, k * 2, none⟩ = some (.string Xl) ∧ W.cell? ⟨bb, k * 2 + 1, none⟩ = some (.string Xd)) := fun W hb => ⟨(hb.cell (p := ⟨wr.heap.size, 0, none⟩) hsz2).trans y0, (hb.cell (p := ⟨wr.heap.size, 1, none⟩) hsz2).trans y1, (hb.cell (p := ⟨wr.heap.size, 2, none⟩) hsz2).trans y2, (hb.cell (p := ⟨wr.heap.size, 3, none⟩) hsz2).trans y3, (hb.cell (p := ⟨bb, k * 2, none⟩) l1).trans e0, (hb.cell (p := ⟨bb, k * 2 + 1, none⟩) l1).trans e1⟩
          have HKS := Lib.hid hKS
          have hS := hKS _ (drew_below wx)
          have hbd := drew_below wx
          have HTX := Lib.hid (fun W (hb : Below wx.heap.size wx W) => HT.out W (HEX.out.below hb))
          clear hC hbN hKS
          go_wp2_with fail
          clear c0 c1 c2 c3 d0 d1
          go_region_held3 (fun W => W.cell? ⟨wr.heap.size, 0, none⟩ = some (.int .i64 f) ∧ W.cell? ⟨wr.heap.size, 1, none⟩ = some (.int .i64 t) ∧ W.cell? ⟨wr.heap.size, 2, none⟩ = some (.string Xl) ∧ W.cell? ⟨wr.heap.size, 3, none⟩ = some (.string Xd) ∧ W.cell? ⟨bb, k * 2, none⟩ = some (.string Xl) ∧ W.cell? ⟨bb, k * 2 + 1, none⟩ = some (.string Xd))
            (first | exact hS | exact hS7 | go_keep)
            (first | ((with_reducible refine (HTX.out _ hbd).mono ?_); rintro e w7 ⟨rfl, hb7⟩; have hbd7 := hbd.trans (hb7.mono hbd.size); clear hbd hb7; have hbd := hbd7; clear hbd7; have hS7 := HKS.out _ hbd))
          have HB7 := Lib.hid (HBX.out.trans (hbd.mono HBX.out.size))
          clear hbd hS hS7 y0 y1 y2 y3 e0 e1
          go_wp2_with fail
          go_roundg (sp.length - (k + 1))
          case rel => exact ⟨k + 1, by go_num, by omega, rfl, HB7.out⟩
          case measure => have := HG.out; omega
        · have hge : ¬ (k : Int) < (sp.length : Int) := by omega
          have HW := Lib.hid (tells_any wr (HE1.out.below (HB3.out.trans (HB.out.mono HB3.out.size))))
          go_wp2_with fail
          refine HW.out.mono ?_
          rintro e w8 ⟨rfl, hb8⟩
          have HBF := Lib.hid (HB1.out.trans ((HB3.out.trans ((HB.out.trans (hb8.mono HB.out.size)).mono HB3.out.size)).mono HB1.out.size))
          clear hb8
          go_wp2
          go_ret
          exact ⟨rfl, HBF.out⟩
end Go.Proofs.YtffngbjnbigipaaGreatDoor
