/- Several texts joined into one (a claim has a limit of files). -/
import Derived.Test.YtffngbjnbigipaaGreatDoorPutA
import Derived.Shelf.Strings.MapAny
import Derived.Lib.TrimU
import Derived.Deep.AppendLies
import Derived.ArgAppend
import Derived.Test.YtffngbjnbigipaaGreatDoorFrmB
import Derived.Test.YtffngbjnbigipaaGreatDoorListG
import Derived.Test.YtffngbjnbigipaaGreatDoorProg
import Derived.Shelf.Strings.BuilderK
import Derived.Test.YtffngbjnbigipaaGreatDoorOrd
import Derived.Test.YtffngbjnbigipaaGreatDoorShelf
/- strings.Map in this seat's numbers, the closure of made: what made makes of an address may be. -/
namespace Go.Proofs
set_option maxRecDepth 100000
def Tryz.lays230_ren : Go.Shelf.Ren := ⟨fun | 118 => 105 | 165 => 40 | 166 => 41 | 167 => 65 | 168 => 106 | 169 => 43 | 197 => 70 | 230 => 58 | 240 => 79 | 241 => 80 | 242 => 147 | 260 => 113 | 270 => 107 | 276 => 127 | 277 => 128 | 278 => 176 | n => n, fun | 0 => 0 | 3 => 3 | 4 => 4 | 5 => 5 | 9 => 9 | 20 => 20 | 21 => 21 | 37 => 80 | 46 => 76 | 51 => 56 | 70 => 79 | 72 => 82 | 75 => 85 | 76 => 86 | 80 => 89 | 105 => 107 | 107 => 101 | 119 => 161 | 127 => 116 | 138 => 163 | 139 => 164 | 164 => 146 | n => n, fun | 3 => 4 | 4 => 5 | n => n⟩
theorem Tryz.lays230 : Go.Proofs.Lays.n230 Tryz.prog Tryz.lays230_ren := {
  mixed := by kernel_rfl
  f118 := Tryz.func105.trans (congrArg some (by kernel_rfl))
  f165 := Tryz.func40.trans (congrArg some (by kernel_rfl))
  f166 := Tryz.func41.trans (congrArg some (by kernel_rfl))
  f167 := Tryz.func65.trans (congrArg some (by kernel_rfl))
  f168 := Tryz.func106.trans (congrArg some (by kernel_rfl))
  f169 := Tryz.func43.trans (congrArg some (by kernel_rfl))
  f197 := Tryz.func70.trans (congrArg some (by kernel_rfl))
  f230 := Tryz.func58.trans (congrArg some (by kernel_rfl))
  f240 := Tryz.func79.trans (congrArg some (by kernel_rfl))
  f241 := Tryz.func80.trans (congrArg some (by kernel_rfl))
  f242 := Tryz.func147.trans (congrArg some (by kernel_rfl))
  f260 := Tryz.func113.trans (congrArg some (by kernel_rfl))
  f270 := Tryz.func107.trans (congrArg some (by kernel_rfl))
  f276 := Tryz.func127.trans (congrArg some (by kernel_rfl))
  f277 := Tryz.func128.trans (congrArg some (by kernel_rfl))
  f278 := Tryz.func176.trans (congrArg some (by kernel_rfl))
  t0 := Tryz.underlying0
  a0 := Tryz.isAgg0
  z0 := Tryz.sizeOf0
  v0 := Tryz.zeroValue0
  t3 := Tryz.underlying3
  a3 := Tryz.isAgg3
  z3 := Tryz.sizeOf3
  v3 := Tryz.zeroValue3
  t4 := Tryz.underlying4
  a4 := Tryz.isAgg4
  z4 := Tryz.sizeOf4
  v4 := Tryz.zeroValue4
  t5 := Tryz.underlying5
  a5 := Tryz.isAgg5
  z5 := Tryz.sizeOf5
  v5 := Tryz.zeroValue5
  t9 := Tryz.underlying9
  a9 := Tryz.isAgg9
  z9 := Tryz.sizeOf9
  v9 := Tryz.zeroValue9
  t20 := Tryz.underlying20
  a20 := Tryz.isAgg20
  z20 := Tryz.sizeOf20
  v20 := Tryz.zeroValue20
  t21 := Tryz.underlying21
  a21 := Tryz.isAgg21
  z21 := Tryz.sizeOf21
  v21 := Tryz.zeroValue21
  t37 := Tryz.underlying80
  a37 := Tryz.isAgg80
  z37 := Tryz.sizeOf80
  v37 := Tryz.zeroValue80
  t46 := Tryz.underlying76
  a46 := Tryz.isAgg76
  z46 := Tryz.sizeOf76
  v46 := Tryz.zeroValue76
  t51 := Tryz.underlying56
  a51 := Tryz.isAgg56
  z51 := Tryz.sizeOf56
  v51 := Tryz.zeroValue56
  t70 := Tryz.underlying79
  a70 := Tryz.isAgg79
  z70 := Tryz.sizeOf79
  v70 := Tryz.zeroValue79
  t72 := Tryz.underlying82
  a72 := Tryz.isAgg82
  z72 := Tryz.sizeOf82
  v72 := Tryz.zeroValue82
  t75 := Tryz.underlying85
  a75 := Tryz.isAgg85
  z75 := Tryz.sizeOf85
  v75 := Tryz.zeroValue85
  t76 := Tryz.underlying86
  a76 := Tryz.isAgg86
  z76 := Tryz.sizeOf86
  v76 := Tryz.zeroValue86
  t105 := Tryz.underlying107
  a105 := Tryz.isAgg107
  z105 := Tryz.sizeOf107
  v105 := Tryz.zeroValue107
  t107 := Tryz.underlying101
  a107 := Tryz.isAgg101
  z107 := Tryz.sizeOf101
  v107 := Tryz.zeroValue101
  t119 := Tryz.underlying161
  a119 := Tryz.isAgg161
  z119 := Tryz.sizeOf161
  t127 := Tryz.underlying116
  a127 := Tryz.isAgg116
  z127 := Tryz.sizeOf116
  v127 := Tryz.zeroValue116
  t138 := Tryz.underlying163
  a138 := Tryz.isAgg163
  z138 := Tryz.sizeOf163
  v138 := Tryz.zeroValue163
  t139 := Tryz.underlying164
  a139 := Tryz.isAgg164
  z139 := Tryz.sizeOf164
  v139 := Tryz.zeroValue164
  t164 := Tryz.underlying146
  a164 := Tryz.isAgg146
  z164 := Tryz.sizeOf146
  v164 := Tryz.zeroValue146
  g3 := by kernel_rfl
  g4 := by kernel_rfl }
theorem Tryz.Builder_Extra_230 : Builder.Extra Tryz.prog Tryz.lays230_ren := {
  sizeBuilder := by kernel_rfl
  liesBuilder := by kernel_rfl
  t5 := Tryz.underlying5
  a5 := Tryz.isAgg5
  z5 := Tryz.sizeOf5
  v5 := Tryz.zeroValue5
  infoByte := by kernel_rfl
  cellsByte := by kernel_rfl
  sizeByte := by kernel_rfl
  neB5 := by decide }
end Go.Proofs
namespace Go.Proofs.YtffngbjnbigipaaGreatDoor
open Go.RowKit Go.Lib Go.Proofs
set_option linter.unusedSimpArgs false
set_option linter.unusedVariables false
set_option linter.unnecessarySimpa false
set_option maxRecDepth 100000

/-- what made makes of a rune. -/
def fM (x : Int) : Int := if x < 32 ∨ 126 < x then 120 else x
theorem clo59 (x : Nat) (w : World) (hx : x ≤ 1114111) : Calls Tryz.prog 59 #[.int .i32 (x : Int)] w fun e w' => e = .returned (.int .i32 (fM x)) ∧ ∃ q, w' = w.drewN q := by
  by_cases h1 : (x : Int) < 32
  · have hf : fM x = 120 := by unfold fM; rw [if_pos (Or.inl h1)]
    have hd : decide ((x : Int) < 32) = true := by simpa using h1
    rw [hf]
    go_enter Tryz.func59, Tryz.ntmps59
    go_wp2
    go_ret
    exact ⟨rfl, 0, rfl⟩
  · have hd : decide ((x : Int) < 32) = false := by simpa using h1
    by_cases h2 : 126 < (x : Int)
    · have hf : fM x = 120 := by unfold fM; rw [if_pos (Or.inr h2)]
      have hd2 : decide ((x : Int) > 126) = true := by simpa using h2
      rw [hf]
      go_enter Tryz.func59, Tryz.ntmps59
      go_wp2
      go_ret
      exact ⟨rfl, 0, rfl⟩
    · have hf : fM x = x := by unfold fM; rw [if_neg (by omega)]
      have hd2 : decide ((x : Int) > 126) = false := by simpa using h2
      rw [hf]
      go_enter Tryz.func59, Tryz.ntmps59
      go_wp2
      go_ret
      exact ⟨rfl, 0, rfl⟩
theorem Map_any (s : ByteArray) (w : World) (hs : s.size < 35184372088832) (hT : Lib.Utf8Tabs 4 5 w) :
    Calls Tryz.prog 58 #[.func (.func 59) #[] #[], .string s] w fun e w' => e = .returned (.string ⟨(Lib.mapD fM s.data.toList).toArray⟩) ∧ Below w.heap.size w w' :=
  Any.strings_Map_runes Tryz.lays230 Tryz.Builder_Extra_230 59 #[] (enters_of Tryz.func59 (by kernel_rfl) rfl) fM s w hs (fun W x hx _ => clo59 x W hx)
    (fun x hx => by unfold fM; split <;> omega) hT
theorem mapD_plain : ∀ (n : Nat) (l : List UInt8), l.length ≤ n → (mapD fM l).length ≤ l.length ∧ plainL (mapD fM l) = true
  | n, [], _ => by rw [mapD_nil]; exact ⟨Nat.le_refl _, rfl⟩
  | 0, b :: l, h => by simp at h
  | n + 1, b :: l, h => by
    have hne : b :: l ≠ [] := by simp
    have hw := decodeL_width (b :: l)
    have hl := decodeL_le (b :: l) hne
    have hr := decodeL_rune (b :: l)
    rw [mapD_step fM (b :: l) hne]
    generalize decodeL (b :: l) = d at hw hl hr ⊢
    have hf : 32 ≤ fM d.1 ∧ fM d.1 ≤ 126 := by unfold fM; split <;> omega
    have hd : ((b :: l).drop d.2).length ≤ n := by simp at h ⊢; omega
    obtain ⟨h1, h2⟩ := mapD_plain n ((b :: l).drop d.2) hd
    have he : encodeRune (fM d.1) = [(fM d.1).toNat.toUInt8] := by
      unfold encodeRune
      rw [encodeRuneZ_one (by omega) (by omega)]
      rfl
    rw [if_pos (by omega), he]
    rw [List.length_drop] at h1
    refine ⟨by simp only [List.length_append, List.length_cons, List.length_nil] at h1 hl ⊢; omega, ?_⟩
    unfold plainL at h2 ⊢
    rw [List.all_append, h2, Bool.and_true]
    simp only [List.all_cons, List.all_nil, Bool.and_true]
    generalize fM d.1 = z at hf
    obtain ⟨z, rfl⟩ : ∃ n : Nat, z = n := ⟨z.toNat, by omega⟩
    have hz : z < 127 ∧ 32 ≤ z := by omega
    have hk : ((z : Int).toNat.toUInt8).toNat = z := by
      simp only [Int.toNat_natCast, Nat.toUInt8, UInt8.toNat_ofNat']
      omega
    rw [hk]
    unfold plainB
    simp
    omega
end Go.Proofs.YtffngbjnbigipaaGreatDoor

/- made: addresses that may be, made of any. -/
namespace Go.Proofs.YtffngbjnbigipaaGreatDoor
open Go.RowKit Go.Lib Go.Proofs
set_option linter.unusedSimpArgs false
set_option linter.unusedVariables false
set_option linter.unnecessarySimpa false
set_option maxRecDepth 100000

theorem tabs_below {g1 g2 : Nat} {w W : World} (h : Lib.Utf8Tabs g1 g2 w) (hb : Below w.heap.size w W) : Lib.Utf8Tabs g1 g2 W :=
  ⟨fun c hc => (hb.cell (World.block_lt_of_cell? w _ (h.1 c hc))).trans (h.1 c hc),
   fun i hi => ⟨(hb.cell (World.block_lt_of_cell? w _ (h.2 i hi).1)).trans (h.2 i hi).1, (hb.cell (World.block_lt_of_cell? w _ (h.2 i hi).2)).trans (h.2 i hi).2⟩⟩
theorem own_below {B t z n : Nat} {v : Value} {xs : List Value} {w W : World} (h : w.ownsRow B t z v n xs) (hb : Below w.heap.size w W) : W.ownsRow B t z v n xs := by
  refine ⟨h.1, ?_⟩
  rcases h.2 with hn | ⟨g, cap, cur, rfl, hg, hgg, rest⟩
  · exact .inl hn
  · refine .inr ⟨g, cap, cur, rfl, hg, ?_, rest⟩
    rw [hb.block g (Array.getElem?_eq_some_iff.1 hgg).1]
    exact hgg
theorem own_form2 {w : World} {B t n : Nat} {v : Value} {xs : List Value} (h : w.ownsRow B t 2 v n xs) : ∃ q c, v = .slice q n c := by
  obtain ⟨_, ⟨rfl, h0⟩ | ⟨g, cap, cur, rfl, _⟩⟩ := h
  · exact ⟨none, 0, by rw [h0]⟩
  · exact ⟨_, _, rfl⟩
theorem app_run {ops : Array Oper} {rest : List Oper} {o : Oper} {a : Act} {Q : Exit → Act → World → Prop} {w : World} (hgd : o.guard = none) (s x : Operand) (t : TypeId)
    (ho : o.op = .call { callee := .builtin .append, args := #[s, x], argTypes := #[t, t] }) (hty : o.type = t) (v xv v' : Value) (w' : World) (hs : a.eval s = v) (hx : a.eval x = xv)
    (hrun : (Builtin.append_ #[t, t] t #[v, xv]).run Tryz.prog w = .ok v' w') (h : wpList Tryz.prog ops Q rest (a.put o.dst v') w') : wpList Tryz.prog ops Q (o :: rest) a w := by
  refine wpList_plain hgd fun K hK => ?_
  unfold Oper.wp execOp
  simp only [ho, hty, resolve, invoke, builtin, Sem.run_bind, Sem.run_pure, Result.andThen_ok, List.map_toArray, List.map_cons, List.map_nil, hs, hx, hrun]
  exact hK _ _ h
def domOf (r : Nat) : List UInt8 := if r = 0 then [97, 46, 101, 120, 97, 109, 112, 108, 101] else if r = 1 then [66, 46, 69, 120, 97, 109, 112, 108, 101] else if r = 2 then [91, 49, 48, 46, 48, 46, 48, 46, 49, 93] else [120]
def cut14 (X : ByteArray) : ByteArray := X.extract 0 (min (X.size : Int) 14).toNat
def madeA (X Y : ByteArray) : Ad := (117 :: mapD fM (cut14 X).data.toList, domOf (Y.size % 4))
/-- an address of the kind that made makes. -/
def Made (a : Ad) : Prop := mayL a = true ∧ a.1.length ≤ 15 ∧ a.2.length ≤ 10
theorem cut14_size (X : ByteArray) : (cut14 X).size ≤ 14 := by unfold cut14; simp; omega
theorem made_ok (X Y : ByteArray) : Made (madeA X Y) := by
  obtain ⟨h1, h2⟩ := mapD_plain _ (cut14 X).data.toList (Nat.le_refl _)
  have h3 := cut14_size X
  have h4 : (cut14 X).data.toList.length = (cut14 X).size := by simp
  rw [h4] at h1
  have hd : domL (domOf (Y.size % 4)) = 0 ∧ (domOf (Y.size % 4)).length ≤ 10 := by
    have : Y.size % 4 < 4 := Nat.mod_lt _ (by decide)
    generalize Y.size % 4 = r at this
    match r, this with
    | 0, _ => decide +kernel
    | 1, _ => decide +kernel
    | 2, _ => decide +kernel
    | 3, _ => decide +kernel
  unfold Made madeA
  refine ⟨?_, by simp; omega, hd.2⟩
  unfold mayL
  simp only [List.isEmpty_cons, Bool.not_false, Bool.true_and, List.length_cons, Bool.and_eq_true, decide_eq_true_eq]
  refine ⟨⟨by omega, ?_⟩, hd.1⟩
  unfold plainL at h2 ⊢
  rw [List.all_cons, h2]
  decide
def MaRel (w : World) (most m : Nat) (g : Nat) (v5 v11 : Value) (W : World) : Prop :=
  ∃ (k : Nat) (l : List Ad) (v : Value), v11 = .int .i64 (k : Int) ∧ v = v5 ∧ k ≤ m ∧ k ≤ most ∧ g = m - k ∧ l.length = k ∧ (∀ a ∈ l, Made a) ∧ W.ownsRow w.heap.size 30 2 v l.length (adsC l) ∧ Below w.heap.size w W ∧ w.heap.size ≤ W.heap.size
set_option maxHeartbeats 8000000 in
theorem made_any (v : Value) (m most : Nat) (X Y : Nat → ByteArray) (w : World) (h : InRow w v m X Y) (hm : m ≤ 9223372036854775807) (hmost : most ≤ 1000) (hT : Lib.Utf8Tabs 4 5 w) :
    Calls Tryz.prog 26 #[v, .int .i64 (most : Int)] w fun e w' => ∃ v', e = .returned v' ∧ ∃ l, ARow w' v' l ∧ l.length = min m most ∧ (∀ a ∈ l, Made a) ∧ Below w.heap.size w w' := by
  obtain ⟨p, cap, rfl, hin⟩ := h
  have HIN := Lib.hid hin
  have HT := Lib.hid hT
  clear hin hT
  go_enter Tryz.func26, Tryz.ntmps26
  go_wp2_with fail
  go_loopg [5, 11] m (fun g v5 v11 W => MaRel w most m g v5 v11 W ∧ True)
  case atStart => exact ⟨⟨0, [], _, rfl, rfl, Nat.zero_le _, Nat.zero_le _, rfl, rfl, fun a ha => (by cases ha), World.ownsRow_nil _ _ _ _, Below.refl _ _, Nat.le_refl _⟩, trivial⟩
  case round =>
    obtain ⟨⟨k, l, v5, rfl, rfl, hk, hkmost, hg, hlk, hparts, hown, hb, hsz⟩, -⟩ := hrel
    have HG := Lib.hid hg
    have HB := Lib.hid hb
    have HL := Lib.hid hlk
    have HP := Lib.hid hparts
    have HO := Lib.hid hown
    have HSZ := Lib.hid hsz
    clear hg hb hlk hparts hown hsz
    by_cases hlt : k < m
    · have hk1 : (k : Int) < (m : Int) := by omega
      obtain ⟨b, o, rfl, hin⟩ := HIN.out.resolve_left (by omega)
      obtain ⟨c0, c1, x1, y1⟩ := hin k hlt
      have hlb : b < w.heap.size := World.block_lt_of_cell? w _ c0
      have d0 : wr.cell? ⟨b, o + k * 2, none⟩ = some (.string (X k)) := (HB.out.cell (p := ⟨b, o + k * 2, none⟩) hlb).trans c0
      have d1 : wr.cell? ⟨b, o + k * 2 + 1, none⟩ = some (.string (Y k)) := (HB.out.cell (p := ⟨b, o + k * 2 + 1, none⟩) hlb).trans c1
      clear hin c0 c1
      have HXY := Lib.hid (made_ok (X k) (Y k))
      generalize X k = x at d0 x1 HXY
      generalize Y k = y at d1 y1 HXY
      have hk0 : (0 : Int) ≤ (k : Int) := by omega
      have ht1 := Two.made wr (.string x) (.string y) 30
      have hb1 := alloc_below wr (.cells #[.string x, .string y] 30)
      by_cases hkm : k < most
      · have hk2 : ((k : Int) == (most : Int)) = false := by simp; omega
        have hwk : IntKind.i64.wrap ((k : Int) + 1) = (k : Int) + 1 := by rw [IntKind.wrap_i64]; omega
        have m0 : (0 : Int) ≤ min (x.size : Int) 14 := by omega
        have m1 : min (x.size : Int) 14 ≤ (x.size : Int) := by omega
        generalize hw1 : wr.alloc (.cells #[.string x, .string y] 30) = w1 at ht1 hb1
        have hb01 : Below w.heap.size w w1 := HB.out.trans (hb1.mono HSZ.out)
        have HM := Lib.hid (Map_any (cut14 x) w1 (by have := cut14_size x; omega) (tabs_below HT.out hb01))
        have HT1 := Lib.hid ht1
        obtain ⟨-, c0, c1, f0, f1⟩ := ht1
        unfold cut14 at HM
        generalize hz : (⟨(Lib.mapD fM (x.extract 0 (min (x.size : Int) 14).toNat).data.toList).toArray⟩ : ByteArray) = z at HM
        go_wp2_with fail
        refine HM.out.mono ?_
        rintro e w2 ⟨rfl, hb2⟩
        obtain ⟨-, c0, c1, f0, f1⟩ := HT1.out.below hb2
        have hb02 : Below w.heap.size w w2 := hb01.trans (hb2.mono hb01.size)
        have hzl : z.data.toList = mapD fM (cut14 x).data.toList := by rw [← hz]; rfl
        have hzs : z.size ≤ 14 := by
          have h1 := (mapD_plain _ (cut14 x).data.toList (Nat.le_refl _)).1
          have h2 := cut14_size x
          have h3 : z.size = z.data.toList.length := by simp
          have h4 : (cut14 x).data.toList.length = (cut14 x).size := by simp
          rw [hzl] at h3
          omega
        obtain ⟨z1, hz1⟩ : ∃ z1, z1 = (⟨#[117]⟩ : ByteArray) ++ z := ⟨_, rfl⟩
        have hadd := add_run hz1 (by have h1 : (⟨#[117]⟩ : ByteArray).size = 1 := rfl; omega)
        have hz1l : z1.data.toList = 117 :: mapD fM (cut14 x).data.toList := by rw [hz1, ← hzl]; simp
        have HZ := Lib.hid hz1l
        clear hz hz1 hzl hzs hz1l
        have ha3 := alloc_below w2 (.cells #[.string ⟨#[97, 46, 101, 120, 97, 109, 112, 108, 101]⟩, .string ⟨#[66, 46, 69, 120, 97, 109, 112, 108, 101]⟩, .string ⟨#[91, 49, 48, 46, 48, 46, 48, 46, 49, 93]⟩, .string ⟨#[120]⟩] 9)
        have hn3 := heap_alloc_new w2 (.cells #[.string ⟨#[97, 46, 101, 120, 97, 109, 112, 108, 101]⟩, .string ⟨#[66, 46, 69, 120, 97, 109, 112, 108, 101]⟩, .string ⟨#[91, 49, 48, 46, 48, 46, 48, 46, 49, 93]⟩, .string ⟨#[120]⟩] 9)
        generalize hw3 : w2.alloc (.cells #[.string ⟨#[97, 46, 101, 120, 97, 109, 112, 108, 101]⟩, .string ⟨#[66, 46, 69, 120, 97, 109, 112, 108, 101]⟩, .string ⟨#[91, 49, 48, 46, 48, 46, 48, 46, 49, 93]⟩, .string ⟨#[120]⟩] 9) = w3 at ha3 hn3
        have hsz2 : w.heap.size ≤ w2.heap.size := Nat.le_trans HSZ.out (Nat.le_trans hb1.size hb2.size)
        have hb03 : Below w.heap.size w w3 := hb02.trans (ha3.mono hsz2)
        have hlt1 : wr.heap.size < w2.heap.size := Nat.lt_of_lt_of_le HT1.out.lt hb2.size
        have e1 : w3.cell? ⟨wr.heap.size, 1, none⟩ = some (.string y) := (ha3.cell (p := ⟨wr.heap.size, 1, none⟩) hlt1).trans c1
        have hcr : w3.cell? ⟨w2.heap.size, y.size % 4, none⟩ = some (.string ⟨(domOf (y.size % 4)).toArray⟩) := by
          have hr4 : y.size % 4 < 4 := Nat.mod_lt _ (by decide)
          generalize y.size % 4 = r at hr4
          match r, hr4 with
          | 0, _ => simp [World.cell?, hn3, domOf]
          | 1, _ => simp [World.cell?, hn3, domOf]
          | 2, _ => simp [World.cell?, hn3, domOf]
          | 3, _ => simp [World.cell?, hn3, domOf]
        have hri0 : (0 : Int) ≤ (y.size : Int) % 4 := by omega
        have hri : (y.size : Int) % 4 < 4 := by omega
        have hsz3 : w.heap.size ≤ w3.heap.size := Nat.le_trans hsz2 ha3.size
        have hbr3 : Below wr.heap.size wr w3 := (hb1.trans (hb2.mono hb1.size)).trans (ha3.mono (Nat.le_trans hb1.size hb2.size))
        have ho3 := own_below HO.out hbr3
        obtain ⟨d, hd⟩ : ∃ d : ByteArray, d = ⟨(domOf (y.size % 4)).toArray⟩ := ⟨_, rfl⟩
        rw [← hd] at hcr
        have HD := Lib.hid hd
        obtain ⟨g, cap', wa, hrun, hown', hbB, hszw⟩ := app_ad 48 30 Tryz.underlying48 info30 w3 _ v5 l.length (adsC l) ho3 z1 d (by have := HL.out; omega) hsz3
        have HO2 := Lib.hid hown'
        have HB2 := Lib.hid (hb03.trans hbB)
        have HSZ2 := Lib.hid hszw
        have HN3 := Lib.hid hn3
        clear hd hn3 ho3 hown' hbB hszw hbr3 hb03 hb02 hb01 hb1 hb2 ha3
        go_wp2_with (at_builtin; refine app_run rfl _ _ 48 rfl rfl _ _ _ _ rfl rfl hrun ?_)
        go_roundg (m - (k + 1))
        case rel =>
          refine ⟨⟨k + 1, l ++ [madeA x y], _, by go_num, rfl, by omega, by omega, rfl, by simp [HL.out], ?_, ?_, HB2.out, HSZ2.out⟩, trivial⟩
          · intro a ha
            rcases List.mem_append.1 ha with ha | ha
            · exact HP.out a ha
            · obtain rfl := List.mem_singleton.1 ha
              exact HXY.out
          · rw [List.length_append, adsC_snoc]
            have e1 : (⟨(117 :: mapD fM (cut14 x).data.toList).toArray⟩ : ByteArray) = z1 := by rw [← HZ.out]
            have e2 : adC (madeA x y) = [.string z1, .string d] := by unfold adC madeA; rw [e1, HD.out]
            rw [e2]
            exact HO2.out
        case measure => have := HG.out; omega
      · have hk2 : ((k : Int) == (most : Int)) = true := by simp; omega
        have ht1' := ht1
        obtain ⟨-, c0, c1, f0, f1⟩ := ht1'
        have HO1 := Lib.hid (own_below HO.out hb1)
        have HB1 := Lib.hid (HB.out.trans (hb1.mono HSZ.out))
        generalize hw1 : wr.alloc (.cells #[.string x, .string y] 30) = w1 at ht1 hb1 c0 c1 f0 f1 HO1 HB1
        have HR := Lib.hid (ARow.of HO1.out)
        go_wp2
        go_ret
        exact ⟨_, rfl, l, HR.out, by have := HL.out; omega, HP.out, HB1.out⟩
    · have hge : ¬ (k : Int) < (m : Int) := by omega
      have HR := Lib.hid (ARow.of HO.out)
      go_wp2
      go_ret
      exact ⟨_, rfl, l, HR.out, by have := HL.out; omega, fun a b h => HP.out (a, b) h, HB.out⟩
end Go.Proofs.YtffngbjnbigipaaGreatDoor

/- Rows of addresses: one more behind a row that came in; two rows of the call's own that grow side by side. -/
namespace Go.Proofs.YtffngbjnbigipaaGreatDoor
open Go.RowKit Go.Lib
set_option linter.unusedSimpArgs false
set_option linter.unusedVariables false
set_option linter.unnecessarySimpa false
set_option maxRecDepth 100000

/-- the cells of a row of k addresses. -/
def rowC (X Y : Nat → ByteArray) : Nat → List Value
  | 0 => []
  | k + 1 => rowC X Y k ++ [.string (X k), .string (Y k)]
theorem rowC_len (X Y : Nat → ByteArray) : ∀ k, (rowC X Y k).length = k * 2
  | 0 => rfl
  | k + 1 => by
    rw [rowC, List.length_append, rowC_len X Y k]
    simp only [List.length_cons, List.length_nil]
    omega
theorem rowC_get (X Y : Nat → ByteArray) : ∀ k i, i < k → (rowC X Y k)[i * 2]? = some (.string (X i)) ∧ (rowC X Y k)[i * 2 + 1]? = some (.string (Y i))
  | 0, i, h => by omega
  | k + 1, i, h => by
    rw [rowC]
    have hl := rowC_len X Y k
    rcases Nat.lt_or_ge i k with hik | hik
    · have := rowC_get X Y k i hik
      rw [List.getElem?_append_left (by omega), List.getElem?_append_left (by omega)]
      exact this
    · obtain rfl : i = k := by omega
      rw [List.getElem?_append_right (by omega), List.getElem?_append_right (by omega), hl]
      have e1 : i * 2 - i * 2 = 0 := by omega
      have e2 : i * 2 + 1 - i * 2 = 1 := by omega
      rw [e1, e2]
      exact ⟨rfl, rfl⟩
theorem rowC_one (X Y : Nat → ByteArray) : ∀ k, ∀ u ∈ rowC X Y k, u.oneCell' = true
  | 0, u, h => by cases h
  | k + 1, u, h => by
    rw [rowC] at h
    rcases List.mem_append.1 h with h | h
    · exact rowC_one X Y k u h
    · simp at h
      rcases h with rfl | rfl <;> rfl
theorem rowC_ext {X Y X' Y' : Nat → ByteArray} : ∀ k, (∀ i, i < k → X i = X' i ∧ Y i = Y' i) → rowC X Y k = rowC X' Y' k
  | 0, _ => rfl
  | k + 1, h => by
    rw [rowC, rowC, rowC_ext k (fun i hi => h i (by omega)), (h k (by omega)).1, (h k (by omega)).2]
theorem own_in {w : World} {B : Nat} {v : Value} {n : Nat} {X Y : Nat → ByteArray} (h : w.ownsRow B 30 2 v n (rowC X Y n)) (hz : ∀ i, i < n → (X i).size ≤ 9223372036854775807 ∧ (Y i).size ≤ 9223372036854775807) : InRow w v n X Y := by
  have hc := fun (g : Nat) (hg : v.ownBlock = some g) => World.ownsRow.cells h (g := g) hg
  obtain ⟨_, ⟨rfl, h0⟩ | ⟨g, cap, cur, rfl, hBg, hg, hcap, _⟩⟩ := h
  · exact ⟨none, 0, by rw [h0], .inl h0⟩
  · refine ⟨_, cap, rfl, .inr ⟨g, 0, rfl, fun i hi => ?_⟩⟩
    obtain ⟨h1, h2⟩ := rowC_get X Y n i hi
    have c1 := hc g rfl _ _ h1
    have c2 := hc g rfl _ _ h2
    have hadd : ∀ j, (⟨g, 0, none⟩ : Addr).add j = ⟨g, j, none⟩ := fun j => by unfold Addr.add; split <;> simp_all
    rw [hadd] at c1 c2
    refine ⟨?_, ?_, (hz i hi).1, (hz i hi).2⟩
    · rw [Nat.zero_add]; exact c1
    · rw [Nat.zero_add]; exact c2
def lastX : ByteArray := ⟨#[108, 97, 115, 116]⟩
def lastY : ByteArray := ⟨#[120]⟩
/-- one address more behind the first k of a row that came in: a new row. -/
theorem app_last (w : World) (p : Option Addr) (k : Nat) (X Y : Nat → ByteArray) (hp : p = none → k = 0) (hin : k = 0 ∨ ∃ b o, p = some ⟨b, o, none⟩ ∧ ∀ i, i < k → w.cell? ⟨b, o + i * 2, none⟩ = some (.string (X i)) ∧ w.cell? ⟨b, o + i * 2 + 1, none⟩ = some (.string (Y i)) ∧ (X i).size ≤ 9223372036854775807 ∧ (Y i).size ≤ 9223372036854775807)
    (hk : k ≤ 1000) :
    ∃ v' w', (Builtin.append_ #[48, 48] 48 #[.slice p k k, .slice (some ⟨w.heap.size, 0, none⟩) 1 1]).run Tryz.prog (w.alloc (.cells #[.string lastX, .string lastY] 30)) = .ok v' w' ∧
      (∃ X' Y', InRow w' v' (k + 1) X' Y') ∧ Below w.heap.size w w' := by
  obtain ⟨i0, hi, hz0, hz1, hz2⟩ := info_parts info30
  have hb1 := alloc_below w (.cells #[.string lastX, .string lastY] 30)
  have hnew := cells2 w (.string lastX) (.string lastY) 30
  have hsz := World.size_alloc w (.cells #[.string lastX, .string lastY] 30)
  generalize hw1 : w.alloc (.cells #[.string lastX, .string lastY] 30) = w1 at hb1 hnew hsz ⊢
  have fin : ∀ v' w', w1.grownBy w' none → (Builtin.append_ #[48, 48] 48 #[.slice p k k, .slice (some ⟨w.heap.size, 0, none⟩) 1 1]).run Tryz.prog w1 = .ok v' w' → ∀ B, w'.ownsRow B 30 2 v' (k + 1) (rowC X Y k ++ [.string lastX, .string lastY]) → (∀ i, i < k → (X i).size ≤ 9223372036854775807 ∧ (Y i).size ≤ 9223372036854775807) →
      ∃ v' w', (Builtin.append_ #[48, 48] 48 #[.slice p k k, .slice (some ⟨w.heap.size, 0, none⟩) 1 1]).run Tryz.prog w1 = .ok v' w' ∧ (∃ X' Y', InRow w' v' (k + 1) X' Y') ∧ Below w.heap.size w w' := by
    intro v' w' hgr hrun B hown hzz
    refine ⟨v', w', hrun, ⟨fun i => if i < k then X i else lastX, fun i => if i < k then Y i else lastY, ?_⟩, ?_⟩
    · refine own_in (B := B) ?_ ?_
      · have e : rowC (fun i => if i < k then X i else lastX) (fun i => if i < k then Y i else lastY) (k + 1) = rowC X Y k ++ [.string lastX, .string lastY] := by
          rw [rowC, rowC_ext (X' := X) (Y' := Y) k (fun i hi => by simp [hi])]
          simp
        rw [e]
        exact hown
      · intro i hi
        by_cases h : i < k
        · simp only [h, if_true]; exact hzz i h
        · simp only [h, if_false]; exact ⟨by decide, by decide⟩
    · exact hb1.grown hgr (by omega) (fun k hk => by cases hk)
  rcases hin with rfl | ⟨b, o, rfl, hin⟩
  · cases p with
    | none =>
      obtain ⟨v', w', hrun, hown, hgr, _⟩ := run_append_own w1 w1.heap.size 48 48 30 i0 _ 2 32 Tryz.underlying48 hi hz0 hz1 hz2 rfl (by decide) (.slice none 0 0) 0 [] (World.ownsRow_nil _ _ _ _) ⟨w.heap.size, 0, none⟩ 1 1 [.string lastX, .string lastY] rfl hnew (by intro u hu; simp at hu; rcases hu with rfl | rfl <;> rfl) (by unfold maxLen; omega) (by omega) (Nat.le_refl _)
      exact fin v' w' hgr hrun _ hown (fun i hi => by omega)
    | some a =>
      obtain ⟨v', w', hrun, hown, hgr⟩ := run_append_arg_grows (P := Tryz.prog) w1 48 48 30 i0 _ 2 32 Tryz.underlying48 hi hz0 hz1 hz2 rfl (by decide) a 0 0 [] rfl (by intro j u h; simp at h) ⟨w.heap.size, 0, none⟩ 1 1 [.string lastX, .string lastY] rfl hnew (by omega) (by unfold maxLen; omega) (by omega)
      exact fin v' w' hgr hrun _ hown (fun i hi => by omega)
  · have hold : ∀ j u, (rowC X Y k)[j]? = some u → w1.cell? ((⟨b, o, none⟩ : Addr).add j) = some u := by
      intro j u hj
      have hadd : (⟨b, o, none⟩ : Addr).add j = ⟨b, o + j, none⟩ := by unfold Addr.add; split <;> simp_all
      rw [hadd]
      have hjl : j < k * 2 := by
        have := (List.getElem?_eq_some_iff.1 hj).1
        rw [rowC_len] at this
        exact this
      obtain ⟨c0, c1, -, -⟩ := hin (j / 2) (by omega)
      obtain ⟨r0, r1⟩ := rowC_get X Y k (j / 2) (by omega)
      have hlb : b < w.heap.size := World.block_lt_of_cell? w _ c0
      rcases Nat.mod_two_eq_zero_or_one j with hm | hm
      · have e : j = j / 2 * 2 := by omega
        rw [e] at hj ⊢
        have : j / 2 * 2 / 2 = j / 2 := by omega
        rw [hj] at r0
        injection r0 with r0
        subst r0
        exact (hb1.cell (p := ⟨b, o + j / 2 * 2, none⟩) hlb).trans c0
      · have e : j = j / 2 * 2 + 1 := by omega
        rw [e] at hj ⊢
        rw [hj] at r1
        injection r1 with r1
        subst r1
        rw [← Nat.add_assoc]
        exact (hb1.cell (p := ⟨b, o + j / 2 * 2 + 1, none⟩) hlb).trans c1
    obtain ⟨v', w', hrun, hown, hgr⟩ := run_append_arg_grows (P := Tryz.prog) w1 48 48 30 i0 _ 2 32 Tryz.underlying48 hi hz0 hz1 hz2 rfl (by decide) ⟨b, o, none⟩ k k (rowC X Y k) (rowC_len X Y k) hold ⟨w.heap.size, 0, none⟩ 1 1 [.string lastX, .string lastY] rfl hnew (by omega) (by unfold maxLen; omega) (by omega)
    exact fin v' w' hgr hrun _ hown (fun i hi => ⟨(hin i hi).2.2.1, (hin i hi).2.2.2⟩)
/-- two rows of the call's own, of other blocks. -/
structure Rows2 (w : World) (B : Nat) (v : Value) (n : Nat) (xs : List Value) (v' : Value) (n' : Nat) (xs' : List Value) : Prop where
  fst : w.ownsRow B 30 2 v n xs
  snd : w.ownsRow B 30 2 v' n' xs'
  apart : ∀ g, v.ownBlock = some g → v'.ownBlock ≠ some g
  base : B ≤ w.heap.size
theorem Rows2.symm {w : World} {B : Nat} {v : Value} {n : Nat} {xs : List Value} {v' : Value} {n' : Nat} {xs' : List Value} (h : Rows2 w B v n xs v' n' xs') : Rows2 w B v' n' xs' v n xs :=
  ⟨h.snd, h.fst, fun g h1 h2 => h.apart g h2 h1, h.base⟩
theorem own_lt {w : World} {B : Nat} {v : Value} {n : Nat} {xs : List Value} (h : w.ownsRow B 30 2 v n xs) : ∀ g, v.ownBlock = some g → g < w.heap.size ∧ B ≤ g := by
  obtain ⟨_, ⟨rfl, h0⟩ | ⟨g, cap, cur, rfl, hBg, hg, hcap, _⟩⟩ := h
  · intro g hg; simp [Value.ownBlock] at hg
  · intro g' hg'
    simp only [Value.ownBlock, Option.some.injEq] at hg'
    subst hg'
    exact ⟨(Array.getElem?_eq_some_iff.1 hg).1, hBg⟩
theorem Rows2.alloc {w : World} {B : Nat} {v : Value} {n : Nat} {xs : List Value} {v' : Value} {n' : Nat} {xs' : List Value} (h : Rows2 w B v n xs v' n' xs') (o : Obj) : Rows2 (w.alloc o) B v n xs v' n' xs' :=
  ⟨h.fst.alloc _, h.snd.alloc _, h.apart, by rw [World.size_alloc]; have := h.base; omega⟩
/-- a block of one address, of neither row. -/
structure News (w : World) (c : Nat) (x y : ByteArray) (v v' : Value) : Prop where
  c0 : w.cell? ⟨c, 0, none⟩ = some (.string x)
  c1 : w.cell? ⟨c, 1, none⟩ = some (.string y)
  n1 : v.ownBlock ≠ some c
  n2 : v'.ownBlock ≠ some c
theorem News.new {w : World} {B : Nat} {v : Value} {n : Nat} {xs : List Value} {v' : Value} {n' : Nat} {xs' : List Value} (h : Rows2 w B v n xs v' n' xs') (x y : ByteArray) (c : Nat) (hc : c = w.heap.size) : News (w.alloc (.cells #[.string x, .string y] 30)) c x y v v' := by
  subst hc
  have ht := Two.made w (.string x) (.string y) 30
  refine ⟨ht.c0, ht.c1, fun e => ?_, fun e => ?_⟩
  · have := (own_lt h.fst _ e).1; omega
  · have := (own_lt h.snd _ e).1; omega
theorem News.lt {w : World} {c : Nat} {x y : ByteArray} {v v' : Value} (h : News w c x y v v') : c < w.heap.size := World.block_lt_of_cell? w _ h.c0
theorem News.alloc {w : World} {c : Nat} {x y : ByteArray} {v v' : Value} (h : News w c x y v v') (o : Obj) : News (w.alloc o) c x y v v' := by
  have hb := alloc_below w o
  exact ⟨(hb.cell (p := ⟨c, 0, none⟩) h.lt).trans h.c0, (hb.cell (p := ⟨c, 1, none⟩) h.lt).trans h.c1, h.n1, h.n2⟩
theorem News.symm {w : World} {c : Nat} {x y : ByteArray} {v v' : Value} (h : News w c x y v v') : News w c x y v' v := ⟨h.c0, h.c1, h.n2, h.n1⟩
/-- one address more on the first row. -/
theorem app_fst {w : World} {B : Nat} {v : Value} {n : Nat} {xs : List Value} {v' : Value} {n' : Nat} {xs' : List Value} (h : Rows2 w B v n xs v' n' xs') {c : Nat} {x y : ByteArray} (hn : News w c x y v v') (hlen : n ≤ 100000) :
    ∃ g cap w', (Builtin.append_ #[48, 48] 48 #[v, .slice (some ⟨c, 0, none⟩) 1 1]).run Tryz.prog w = .ok (.slice (some ⟨g, 0, none⟩) (n + 1) cap) w' ∧
      Rows2 w' B (.slice (some ⟨g, 0, none⟩) (n + 1) cap) (n + 1) (xs ++ [.string x, .string y]) v' n' xs' ∧ Below B w w' ∧
      (∀ c' x' y', News w c' x' y' v v' → News w' c' x' y' (.slice (some ⟨g, 0, none⟩) (n + 1) cap) v') ∧
      (∀ p : Addr, p.block < w.heap.size → v.ownBlock ≠ some p.block → w'.cell? p = w.cell? p) ∧ (v.ownBlock = some g ∨ g = w.heap.size) := by
  obtain ⟨i0, hi, hz0, hz1, hz2⟩ := info_parts info30
  have hadd : ∀ j, (⟨c, 0, none⟩ : Addr).add j = ⟨c, j, none⟩ := fun j => by unfold Addr.add; split <;> simp_all
  have hnews : ∀ (j : Nat) (u : Value), [Value.string x, .string y][j]? = some u → w.cell? ((⟨c, 0, none⟩ : Addr).add j) = some u := by
    intro j u hu
    rw [hadd]
    match j, hu with
    | 0, hu => simp at hu; subst hu; exact hn.c0
    | 1, hu => simp at hu; subst hu; exact hn.c1
    | j + 2, hu => simp at hu
  obtain ⟨g, cap, w', hrun, hown, hgr, hat, hlt⟩ := run_append_lies (P := Tryz.prog) w 48 48 B 30 i0 _ 2 32 Tryz.underlying48 hi hz0 hz1 hz2 rfl (by decide) v n xs h.fst ⟨c, 0, none⟩ 1 1 [.string x, .string y] rfl hnews (by intro u hu; simp at hu; rcases hu with rfl | rfl <;> rfl) (by omega) (by unfold maxLen; omega) (by omega) h.base w.heap.size rfl
  refine ⟨g, cap, w', hrun, ⟨hown, ?_, ?_, Nat.le_trans h.base hgr.size⟩, ?_, ?_, fun p hp hv => hgr.cell_far p hp (fun e => hv e.symm), hat⟩
  · refine h.snd.kept hgr ?_
    cases hv : v'.ownBlock with
    | none => exact .inl rfl
    | some g' => exact .inr (fun e => h.apart g' e.symm hv)
  · intro g' hg' hv'
    simp only [Value.ownBlock, Option.some.injEq] at hg'
    subst hg'
    rcases hat with hat | hat
    · exact h.apart g hat hv'
    · have := (own_lt h.snd _ hv').1
      omega
  · exact (Below.refl B w).grown hgr h.base (fun k hk => (own_lt h.fst k hk).2)
  · intro c' x' y' hn'
    have hl := hn'.lt
    refine ⟨(hgr.cell_far _ hl (fun e => hn'.n1 e.symm)).trans hn'.c0, (hgr.cell_far _ hl (fun e => hn'.n1 e.symm)).trans hn'.c1, ?_, hn'.n2⟩
    intro e
    simp only [Value.ownBlock, Option.some.injEq] at e
    subst e
    rcases hat with hat | hat
    · exact hn'.n1 hat
    · omega
/-- the state of a region in which both rows grow: what is as it was ahead of it. -/
structure RegS (wx : World) (B : Nat) (u u' : Value) (W : World) (v : Value) (n : Nat) (xs : List Value) (v' : Value) (n' : Nat) (xs' : List Value) : Prop where
  rows : Rows2 W B v n xs v' n' xs'
  below : Below B wx W
  size : wx.heap.size ≤ W.heap.size
  kept : ∀ p : Addr, p.block < wx.heap.size → u.ownBlock ≠ some p.block → u'.ownBlock ≠ some p.block → W.cell? p = wx.cell? p
  was : ∀ g, v.ownBlock = some g → g < wx.heap.size → u.ownBlock = some g
  was' : ∀ g, v'.ownBlock = some g → g < wx.heap.size → u'.ownBlock = some g
theorem RegS.symm {wx : World} {B : Nat} {u u' : Value} {W : World} {v : Value} {n : Nat} {xs : List Value} {v' : Value} {n' : Nat} {xs' : List Value} (h : RegS wx B u u' W v n xs v' n' xs') : RegS wx B u' u W v' n' xs' v n xs :=
  ⟨h.rows.symm, h.below, h.size, fun p h1 h2 h3 => h.kept p h1 h3 h2, h.was', h.was⟩
theorem RegS.start {w : World} {B : Nat} {v : Value} {n : Nat} {xs : List Value} {v' : Value} {n' : Nat} {xs' : List Value} (h : Rows2 w B v n xs v' n' xs') : RegS w B v v' w.drew v n xs v' n' xs' :=
  ⟨⟨h.fst.drew, h.snd.drew, h.apart, h.base⟩, ⟨rfl, rfl, rfl, Nat.le_refl _, fun _ _ => rfl⟩, Nat.le_refl _, fun p _ _ _ => rfl, fun g hg _ => hg, fun g hg _ => hg⟩
theorem RegS.alloc {wx : World} {B : Nat} {u u' : Value} {W : World} {v : Value} {n : Nat} {xs : List Value} {v' : Value} {n' : Nat} {xs' : List Value} (h : RegS wx B u u' W v n xs v' n' xs') (o : Obj) : RegS wx B u u' (W.alloc o) v n xs v' n' xs' :=
  have hb := alloc_below W o
  ⟨h.rows.alloc o, h.below.trans (hb.mono h.rows.base), Nat.le_trans h.size hb.size, fun p h1 h2 h3 => (hb.cell (p := p) (Nat.lt_of_lt_of_le h1 h.size)).trans (h.kept p h1 h2 h3), h.was, h.was'⟩
theorem RegS.app {wx : World} {B : Nat} {u u' : Value} {W : World} {v : Value} {n : Nat} {xs : List Value} {v' : Value} {n' : Nat} {xs' : List Value} (h : RegS wx B u u' W v n xs v' n' xs') {c : Nat} {x y : ByteArray} (hn : News W c x y v v') (hlen : n ≤ 100000) :
    ∃ g cap w', (Builtin.append_ #[48, 48] 48 #[v, .slice (some ⟨c, 0, none⟩) 1 1]).run Tryz.prog W = .ok (.slice (some ⟨g, 0, none⟩) (n + 1) cap) w' ∧
      RegS wx B u u' w' (.slice (some ⟨g, 0, none⟩) (n + 1) cap) (n + 1) (xs ++ [.string x, .string y]) v' n' xs' ∧
      (∀ c' x' y', News W c' x' y' v v' → News w' c' x' y' (.slice (some ⟨g, 0, none⟩) (n + 1) cap) v') := by
  obtain ⟨g, cap, w', hrun, hR, hB, hN, hK, hat⟩ := app_fst h.rows hn hlen
  refine ⟨g, cap, w', hrun, ⟨hR, h.below.trans hB, Nat.le_trans h.size hB.size, fun p h1 h2 h3 => ?_, fun g' hg' hl => ?_, h.was'⟩, hN⟩
  · refine (hK p (Nat.lt_of_lt_of_le h1 h.size) (fun e => h2 (h.was _ e h1))).trans (h.kept p h1 h2 h3)
  · simp only [Value.ownBlock, Option.some.injEq] at hg'
    subst hg'
    rcases hat with hat | hat
    · exact h.was _ hat hl
    · have := h.size
      omega
theorem RegS.same {wx : World} {B : Nat} {u u' : Value} {W : World} {v : Value} {n : Nat} {xs : List Value} {v' : Value} {n' : Nat} {xs' : List Value} (h : RegS wx B u u' W v n xs v' n' xs') : RegS wx B u u' W v n xs v' n' xs' := h
theorem News.same {w : World} {c : Nat} {x y : ByteArray} {v v' : Value} (h : News w c x y v v') : News w c x y v v' := h
theorem RegS.allocD {wx : World} {B : Nat} {u u' : Value} {W : World} {v : Value} {n : Nat} {xs : List Value} {v' : Value} {n' : Nat} {xs' : List Value} (h : RegS wx B u u' W.drew v n xs v' n' xs') (o : Obj) : RegS wx B u u' (W.alloc o).drew v n xs v' n' xs' := h.alloc o
theorem News.newD {w : World} {B : Nat} {v : Value} {n : Nat} {xs : List Value} {v' : Value} {n' : Nat} {xs' : List Value} (h : Rows2 w.drew B v n xs v' n' xs') (x y : ByteArray) (c : Nat) (hc : c = w.heap.size) : News (w.alloc (.cells #[.string x, .string y] 30)).drew c x y v v' := News.new h x y c hc
theorem News.newD2 {w : World} {B : Nat} {v : Value} {n : Nat} {xs : List Value} {v' : Value} {n' : Nat} {xs' : List Value} {o : Obj} (h : Rows2 (w.alloc o).drew B v n xs v' n' xs') (x y : ByteArray) : News ((w.alloc o).alloc (.cells #[.string x, .string y] 30)).drew (w.heap.size + 1) x y v v' := News.new h x y _ (World.size_alloc w o).symm
theorem News.allocD {w : World} {c : Nat} {x y : ByteArray} {v v' : Value} (h : News w.drew c x y v v') (o : Obj) : News (w.alloc o).drew c x y v v' := h.alloc o
/-- the world at hand, said syntactically: a quick 'no' for an arm that speaks of another. -/
theorem at_world {P : Program} {o : Oper} {a : Act} {K : Act → World → Prop} {Q : Exit → Act → World → Prop} {E : Prop} {b : Bool} (W : World) (h : if b = true then Oper.wp P o a W K Q else E) : if b = true then Oper.wp P o a W K Q else E := h
/-- an append run by an equation, as a step of a region that draws. -/
theorem step_app {P : Program} {ops : Array Oper} {o : Oper} {a : Act} {w : World} {K : Act → World → Prop} {Q : Exit → Act → World → Prop} {E : Prop} (hgd : o.guard = none) (s x : Operand) (t : TypeId)
    (ho : o.op = .call { callee := .builtin .append, args := #[s, x], argTypes := #[t, t] }) (ty : TypeId) (hty : o.type = ty) (v e2 u : Value) (w' : World) (hs : a.eval s = v) (hx : a.eval x = e2)
    (hrun : (Builtin.append_ #[t, t] ty #[v, e2]).run P w = .ok u w') (h : K (a.put o.dst u) w') :
    if Region.wanted o (yielded ops a.tmps) = true then Oper.wp P o a w K Q else E := by
  have hw : Region.wanted o (yielded ops a.tmps) = true := by simp [Region.wanted, hgd]
  rw [if_pos hw]
  subst hty
  unfold Oper.wp execOp
  simp only [ho, resolve, invoke, builtin, Sem.run_bind, Sem.run_pure, Result.andThen_ok, List.map_toArray, List.map_cons, List.map_nil, hs, hx, hrun]
  exact h
end Go.Proofs.YtffngbjnbigipaaGreatDoor

/- What the lists' reader reads of a text depends on just what it passes over: the same bytes elsewhere are read the same. Plain Lean. -/
namespace Go.Proofs.YtffngbjnbigipaaGreatDoor
open Go.RowKit Go.Lib
set_option linter.unusedSimpArgs false
set_option linter.unusedVariables false
set_option linter.unnecessarySimpa false
set_option maxRecDepth 100000

/-! comments, quoted words and white space cut off behind their end -/
theorem com_cut (r : List UInt8) : ∀ (l : List UInt8) (deep k : Nat), (comGo (l ++ r) deep k).2 = 0 → (comGo (l ++ r) deep k).1 ≤ k + l.length → comGo l deep k = comGo (l ++ r) deep k
  | [], deep, k, h, h1 => by
    rw [List.nil_append] at h h1
    have := (com_many r deep k).1 h
    simp at h1
    omega
  | [c], deep, k, h, h1 => by
    rw [List.singleton_append, com_step] at h h1
    rw [List.singleton_append, com_step, com_step c r]
    simp only [List.length_cons, List.length_nil] at h1
    split at h
    · rename_i e1
      rw [if_pos e1] at h1
      split at h
      · simp at h
      · rename_i e2
        rw [if_neg e2] at h1
        have := (com_many r _ _).1 h
        omega
    · rename_i e1
      rw [if_neg e1] at h1
      rw [if_neg e1, if_neg e1]
      split at h
      · rename_i e2
        rw [if_pos e2] at h1
        rw [if_pos e2, if_pos e2]
        split at h
        · rename_i e3
          rw [if_pos e3, if_pos e3]
        · rename_i e3
          rw [if_neg e3] at h1
          have := (com_many r _ _).1 h
          omega
      · rename_i e2
        rw [if_neg e2] at h1
        split at h
        · rename_i e3
          rw [if_pos e3] at h1
          cases r with
          | nil => simp at h
          | cons d r =>
            simp only at h h1
            split at h
            · rename_i e4
              rw [if_pos e4] at h1
              have := (com_many r _ _).1 h
              omega
            · simp at h
        · rename_i e3
          rw [if_neg e3] at h1
          split at h
          · rename_i e4
            rw [if_pos e4] at h1
            have := (com_many r _ _).1 h
            omega
          · simp at h
  | c :: d :: l, deep, k, h, h1 => by
    rw [List.cons_append, com_step] at h h1
    rw [List.cons_append, com_step, com_step c (d :: l ++ r)]
    have hl : k + (c :: d :: l).length = k + 1 + (d :: l).length := by simp; omega
    have hl2 : k + (c :: d :: l).length = k + 2 + l.length := by simp; omega
    split at h
    · rename_i e1
      rw [if_pos e1] at h1
      rw [if_pos e1, if_pos e1]
      split at h
      · simp at h
      · rename_i e2
        rw [if_neg e2] at h1
        rw [if_neg e2, if_neg e2]
        exact com_cut r (d :: l) _ _ h (by omega)
    · rename_i e1
      rw [if_neg e1] at h1
      rw [if_neg e1, if_neg e1]
      split at h
      · rename_i e2
        rw [if_pos e2] at h1
        rw [if_pos e2, if_pos e2]
        split at h
        · rename_i e3
          rw [if_pos e3, if_pos e3]
        · rename_i e3
          rw [if_neg e3] at h1
          rw [if_neg e3, if_neg e3]
          exact com_cut r (d :: l) _ _ h (by omega)
      · rename_i e2
        rw [if_neg e2] at h1
        rw [if_neg e2, if_neg e2]
        split at h
        · rename_i e3
          rw [if_pos e3] at h1
          rw [if_pos e3, if_pos e3]
          simp only [List.cons_append] at h h1 ⊢
          split at h
          · rename_i e4
            rw [if_pos e4] at h1
            rw [if_pos e4, if_pos e4]
            exact com_cut r l _ _ h (by omega)
          · simp at h
        · rename_i e3
          rw [if_neg e3] at h1
          rw [if_neg e3, if_neg e3]
          split at h
          · rename_i e4
            rw [if_pos e4] at h1
            rw [if_pos e4, if_pos e4]
            exact com_cut r (d :: l) _ _ h (by omega)
          · simp at h
theorem commentL_cut (l r : List UInt8) (h : (commentL (l ++ r)).2 = 0) (h1 : (commentL (l ++ r)).1 ≤ l.length) : commentL l = commentL (l ++ r) := by
  cases l with
  | nil =>
    rw [List.nil_append] at h h1
    have := (comment_many r).1 h
    simp at h1
    omega
  | cons c l =>
    unfold commentL at h h1 ⊢
    by_cases e : (c :: l).head? = some 40
    · have e2 : (c :: l ++ r).head? = some 40 := e
      rw [if_pos e2] at h h1
      rw [if_pos e, if_pos e2]
      exact com_cut r (c :: l) 0 0 h (by omega)
    · have e2 : ¬ (c :: l ++ r).head? = some 40 := e
      rw [if_neg e2] at h
      simp at h
theorem quot_lt : ∀ (l out : List UInt8) (k : Nat), (quotGo l out k).2.2 = 0 → k < (quotGo l out k).2.1
  | [], _, _, h => by simp [quotGo] at h
  | [c], out, k, h => by
    rw [quotGo] at h ⊢
    split at h
    · rename_i e1
      rw [if_pos e1]
      simp
    · split at h
      · simp at h
      · split at h <;> simp at h
  | c :: d :: l, out, k, h => by
    rw [quotGo] at h ⊢
    split at h
    · rename_i e1
      rw [if_pos e1]
      simp
    · rename_i e1
      rw [if_neg e1]
      split at h
      · rename_i e2
        rw [if_pos e2]
        split at h
        · rename_i e3
          rw [if_pos e3]
          have := quot_lt l _ _ h
          omega
        · simp at h
      · rename_i e2
        rw [if_neg e2]
        split at h
        · rename_i e3
          rw [if_pos e3]
          have := quot_lt (d :: l) _ _ h
          omega
        · simp at h
theorem quot_cut (r : List UInt8) : ∀ (l out : List UInt8) (k : Nat), (quotGo (l ++ r) out k).2.2 = 0 → (quotGo (l ++ r) out k).2.1 ≤ k + l.length → quotGo l out k = quotGo (l ++ r) out k
  | [], out, k, h, h1 => by
    rw [List.nil_append] at h h1
    have := quot_lt r out k h
    simp at h1
    omega
  | [c], out, k, h, h1 => by
    rw [List.singleton_append] at h h1 ⊢
    cases r with
    | nil => rfl
    | cons d r =>
      rw [quotGo] at h h1 ⊢
      rw [quotGo]
      simp only [List.length_cons, List.length_nil] at h1
      split at h
      · rename_i e1
        rw [if_pos e1, if_pos e1]
      · rename_i e1
        rw [if_neg e1] at h1
        split at h
        · rename_i e2
          rw [if_pos e2] at h1
          split at h
          · rename_i e3
            rw [if_pos e3] at h1
            have := quot_lt _ _ _ h
            omega
          · simp at h
        · rename_i e2
          rw [if_neg e2] at h1
          split at h
          · rename_i e3
            rw [if_pos e3] at h1
            have := quot_lt _ _ _ h
            omega
          · simp at h
  | c :: d :: l, out, k, h, h1 => by
    rw [List.cons_append, List.cons_append, quotGo] at h h1
    rw [List.cons_append, List.cons_append, quotGo, quotGo]
    have hl : k + (c :: d :: l).length = k + 1 + (d :: l).length := by simp; omega
    have hl2 : k + (c :: d :: l).length = k + 2 + l.length := by simp; omega
    split at h
    · rename_i e1
      rw [if_pos e1, if_pos e1]
    · rename_i e1
      rw [if_neg e1] at h1
      rw [if_neg e1, if_neg e1]
      split at h
      · rename_i e2
        rw [if_pos e2] at h1
        rw [if_pos e2, if_pos e2]
        split at h
        · rename_i e3
          rw [if_pos e3] at h1
          rw [if_pos e3, if_pos e3]
          exact quot_cut r l _ _ h (by omega)
        · simp at h
      · rename_i e2
        rw [if_neg e2] at h1
        rw [if_neg e2, if_neg e2]
        split at h
        · rename_i e3
          rw [if_pos e3] at h1
          rw [if_pos e3, if_pos e3]
          exact quot_cut r (d :: l) _ _ h (by rw [List.cons_append]; omega)
        · simp at h
theorem quoted_pos (l : List UInt8) (h : (quoted l).2.2 = 0) : 1 < (quoted l).2.1 := by
  cases l with
  | nil => simp [quoted] at h
  | cons c l =>
    unfold quoted at h ⊢
    simp only at h ⊢
    split at h
    · rename_i e
      rw [if_pos e]
      exact quot_lt _ _ _ h
    · simp at h
theorem quoted_cut (l r : List UInt8) (h : (quoted (l ++ r)).2.2 = 0) (h1 : (quoted (l ++ r)).2.1 ≤ l.length) : quoted l = quoted (l ++ r) := by
  have h2 := quoted_pos _ h
  cases l with
  | nil => rw [List.length_nil] at h1; omega
  | cons c l =>
    unfold quoted at h h1 ⊢
    simp only [List.cons_append, List.length_cons] at h h1 ⊢
    split at h
    · rename_i e
      rw [if_pos e] at h1
      rw [if_pos e, if_pos e]
      exact quot_cut r l [] 1 h (by omega)
    · simp at h
def blB (c : UInt8) : Bool := c == 32 || c == 9 || c == 40
theorem blB_no {c : UInt8} (h : blB c = false) : ¬ (c.toNat = 32 ∨ c.toNat = 9) ∧ ¬ c.toNat = 40 := by
  unfold blB at h
  simp only [Bool.or_eq_false_iff, beq_eq_false_iff_ne] at h
  refine ⟨fun e => ?_, fun e => h.2 (UInt8.toNat_inj.1 e)⟩
  rcases e with e | e
  · exact h.1.1 (UInt8.toNat_inj.1 e)
  · exact h.1.2 (UInt8.toNat_inj.1 e)
theorem blB_yes {c : UInt8} (h : c.toNat = 32 ∨ c.toNat = 9 ∨ c.toNat = 40) : blB c = true := by
  unfold blB
  rcases h with h | h | h
  · rw [show c = 32 from UInt8.toNat_inj.1 h]; rfl
  · rw [show c = 9 from UInt8.toNat_inj.1 h]; rfl
  · rw [show c = 40 from UInt8.toNat_inj.1 h]; rfl
theorem bl_stop {r : List UInt8} (h : Stops blB r) (f k : Nat) : blGo f r k = (k, 0) := by
  cases f with
  | zero => rfl
  | succ f =>
    cases r with
    | nil => rfl
    | cons c r =>
      have := blB_no (h c r rfl)
      rw [blGo, if_neg this.1, if_neg this.2]
theorem bl_ge : ∀ (f : Nat) (l : List UInt8) (k : Nat), (blGo f l k).2 = 0 → k ≤ (blGo f l k).1
  | 0, _, _, _ => Nat.le_refl _
  | _ + 1, [], _, _ => Nat.le_refl _
  | f + 1, c :: l, k, h => by
    rw [blGo] at h ⊢
    split at h
    · rename_i e1
      rw [if_pos e1]
      have := bl_ge f l _ h
      omega
    · rename_i e1
      rw [if_neg e1]
      split at h
      · rename_i e2
        rw [if_pos e2]
        split at h
        · rename_i e3
          rw [if_pos e3]
          have := bl_ge f _ _ h
          omega
        · rename_i e3
          exact absurd h e3
      · rename_i e2
        rw [if_neg e2]
        exact Nat.le_refl _
theorem bl_gap {r r' : List UInt8} (hs : Stops blB r') : ∀ (f : Nat) (g : List UInt8) (k f' : Nat), (g ++ r).length ≤ f → (g ++ r').length ≤ f' → blGo f (g ++ r) k = (k + g.length, 0) → blGo f' (g ++ r') k = (k + g.length, 0)
  | f, [], k, f', _, _, _ => by
    rw [List.nil_append, bl_stop hs]
    simp
  | 0, c :: g, _, _, h, _, _ => by simp at h
  | f + 1, c :: g, k, f', hf, hf', h => by
    obtain ⟨f', rfl⟩ : ∃ x, f' = x + 1 := ⟨f' - 1, by simp at hf'; omega⟩
    rw [List.cons_append, blGo] at h
    rw [List.cons_append, blGo]
    have hl : k + (c :: g).length = k + 1 + g.length := by simp; omega
    rw [hl] at h ⊢
    split at h
    · rename_i e1
      rw [if_pos e1]
      exact bl_gap hs f g (k + 1) f' (by simp at hf ⊢; omega) (by simp at hf' ⊢; omega) h
    · rename_i e1
      rw [if_neg e1]
      split at h
      · rename_i e2
        rw [if_pos e2]
        split at h
        · rename_i e3
          have hge := bl_ge f _ _ (by rw [h])
          rw [h] at hge
          simp only at hge
          have hm : (commentL (c :: g ++ r)).1 ≤ (c :: g).length := by
            rw [List.cons_append]
            simp only [List.length_cons]
            omega
          have e4 := commentL_cut (c :: g) r (by rw [List.cons_append]; exact e3) hm
          rw [List.cons_append] at e4 hm
          have e5 := commentL_app (c :: g) r' (by rw [e4]; exact e3)
          rw [List.cons_append] at e5
          rw [e5, e4, if_pos e3]
          have hpos := (comment_many (c :: (g ++ r))).1 e3
          generalize commentL (c :: (g ++ r)) = cm at h hm hpos ⊢
          have d1 : (c :: (g ++ r)).drop cm.1 = (c :: g).drop cm.1 ++ r := by rw [← List.cons_append, List.drop_append_of_le_length hm]
          have d2 : (c :: (g ++ r')).drop cm.1 = (c :: g).drop cm.1 ++ r' := by rw [← List.cons_append, List.drop_append_of_le_length hm]
          rw [d1] at h
          rw [d2]
          have hd : ((c :: g).drop cm.1).length = (c :: g).length - cm.1 := List.length_drop
          have hl2 : k + 1 + g.length = k + cm.1 + ((c :: g).drop cm.1).length := by
            rw [hd]
            simp only [List.length_cons] at hm ⊢
            omega
          rw [hl2] at h ⊢
          exact bl_gap hs f _ _ f' (by rw [List.length_append, hd]; simp at hf hm ⊢; omega) (by rw [List.length_append, hd]; simp at hf' hm ⊢; omega) h
        · rename_i e3
          injection h with h1 h2
          exact absurd h2 e3
      · injection h with h1 h2
        omega
theorem bl_first : ∀ (f : Nat) (l : List UInt8) (k : Nat), l.length ≤ f → (blGo f l k).2 = 0 → Stops blB (l.drop ((blGo f l k).1 - k))
  | f, [], k, _, _ => by
    intro c r h
    simp at h
  | 0, c :: l, _, h, _ => by simp at h
  | f + 1, c :: l, k, hf, h => by
    rw [blGo] at h ⊢
    split at h
    · rename_i e1
      rw [if_pos e1]
      have ih := bl_first f l (k + 1) (by simpa using hf) h
      have hge := bl_ge f l _ h
      have e : (blGo f l (k + 1)).1 - k = (blGo f l (k + 1)).1 - (k + 1) + 1 := by omega
      rw [e, List.drop_succ_cons]
      exact ih
    · rename_i e1
      rw [if_neg e1]
      split at h
      · rename_i e2
        rw [if_pos e2]
        split at h
        · rename_i e3
          rw [if_pos e3]
          have hpos := (comment_many (c :: l)).1 e3
          have ih := bl_first f _ _ (by simp at hf ⊢; omega) h
          have hge := bl_ge f _ _ h
          rw [List.drop_drop] at ih
          have e : (commentL (c :: l)).1 + ((blGo f (List.drop (commentL (c :: l)).1 (c :: l)) (k + (commentL (c :: l)).1)).1 - (k + (commentL (c :: l)).1)) = (blGo f (List.drop (commentL (c :: l)).1 (c :: l)) (k + (commentL (c :: l)).1)).1 - k := by omega
          rw [e] at ih
          exact ih
        · rename_i e3
          exact absurd h e3
      · rename_i e2
        rw [if_neg e2]
        intro c' r' hc
        simp only [Nat.sub_self, List.drop_zero] at hc
        injection hc with h1 h2
        subst h1
        cases hb : blB c with
        | false => rfl
        | true =>
          exfalso
          unfold blB at hb
          simp only [Bool.or_eq_true, beq_iff_eq] at hb
          rcases hb with (rfl | rfl) | rfl
          · exact e1 (.inl rfl)
          · exact e1 (.inr rfl)
          · exact e2 rfl

/-! gaps: the same bytes at two places -/
def Stop (p : UInt8 → Bool) (l : List UInt8) (n : Nat) : Prop := ∀ c, l[n]? = some c → p c = false
theorem at_drop' {l r : List UInt8} {k : Nat} {c : UInt8} (h : l.drop k = c :: r) : l[k]? = some c := by
  have := get_drop h 0
  simpa using this
theorem stop_iff {p : UInt8 → Bool} {l : List UInt8} {n : Nat} : Stop p l n ↔ Stops p (l.drop n) := by
  constructor
  · intro h c r e
    exact h c (at_drop' e)
  · intro h c e
    obtain ⟨hn, he⟩ := List.getElem?_eq_some_iff.1 e
    exact h c (l.drop (n + 1)) (by rw [List.drop_eq_getElem_cons hn, he])
theorem Stop.of {p : UInt8 → Bool} {l l' : List UInt8} {n n' : Nat} (h : Stop p l n) (e : l'[n']? = l[n]?) : Stop p l' n' := fun c hc => h c (by rw [← e, hc])
theorem Stop.byte {p : UInt8 → Bool} {l : List UInt8} {n : Nat} {c : UInt8} (h : l[n]? = some c) (hc : p c = false) : Stop p l n := fun d hd => by rw [h] at hd; injection hd with hd; rw [← hd]; exact hc
theorem blank_stop {l : List UInt8} {k n : Nat} (h : blankE l k = some n) : Stop blB l n := by
  unfold blankE blankL at h
  split at h
  · rename_i h0
    injection h with h
    subst h
    have := bl_first _ _ 0 (Nat.le_refl _) h0
    rw [List.drop_drop, Nat.sub_zero] at this
    exact stop_iff.2 this
  · cases h
theorem blank_here {l : List UInt8} {k : Nat} (h : Stop blB l k) : blankE l k = some k := by
  unfold blankE blankL
  rw [bl_stop (stop_iff.1 h)]
  rfl
theorem blank_first {l : List UInt8} {k n : Nat} (h : blankE l k = some n) (hk : k < n) : ∃ c, l[k]? = some c ∧ blB c = true := by
  cases e : l[k]? with
  | none =>
    have := blank_here (l := l) (k := k) (fun c hc => by rw [e] at hc; cases hc)
    rw [this] at h
    injection h with h
    omega
  | some c =>
    refine ⟨c, rfl, ?_⟩
    cases hb : blB c with
    | true => rfl
    | false =>
      have := blank_here (l := l) (k := k) (Stop.byte e hb)
      rw [this] at h
      injection h with h
      omega
theorem blB_host {c : UInt8} (h : blB c = true) : hostdotB c = false := by
  unfold blB at h
  simp only [Bool.or_eq_true, beq_iff_eq] at h
  rcases h with (rfl | rfl) | rfl <;> decide
def Gap (l l' : List UInt8) (k k' n n' : Nat) : Prop := ∃ g, l.drop k = g ++ l.drop n ∧ l'.drop k' = g ++ l'.drop n' ∧ n = k + g.length ∧ n' = k' + g.length
theorem Gap.le {l l' : List UInt8} {k k' n n' : Nat} (h : Gap l l' k k' n n') : k ≤ n ∧ k' ≤ n' ∧ n' = k' + (n - k) := by
  obtain ⟨g, -, -, h1, h2⟩ := h
  omega
theorem Gap.split {l l' : List UInt8} {k k' n n' : Nat} (h : Gap l l' k k' n n') (m : Nat) (h1 : k ≤ m) (h2 : m ≤ n) : Gap l l' k k' m (k' + (m - k)) ∧ Gap l l' m (k' + (m - k)) n n' := by
  obtain ⟨g, a, b, c, d⟩ := h
  have hl : (g.take (m - k)).length = m - k := by rw [List.length_take]; omega
  have a1 : l.drop m = g.drop (m - k) ++ l.drop n := by
    have : m = k + (m - k) := by omega
    rw [this, ← List.drop_drop, a, List.drop_append_of_le_length (by omega)]
    congr 2
    omega
  have b1 : l'.drop (k' + (m - k)) = g.drop (m - k) ++ l'.drop n' := by
    rw [← List.drop_drop, b, List.drop_append_of_le_length (by omega)]
  refine ⟨⟨g.take (m - k), ?_, ?_, by omega, by omega⟩, ⟨g.drop (m - k), a1, b1, ?_, ?_⟩⟩
  · rw [a1, ← List.append_assoc, List.take_append_drop, a]
  · rw [b1, ← List.append_assoc, List.take_append_drop, b]
  · rw [List.length_drop]; omega
  · rw [List.length_drop]; omega
theorem Gap.get {l l' : List UInt8} {k k' n n' : Nat} (h : Gap l l' k k' n n') (i : Nat) (h1 : k ≤ i) (h2 : i < n) : l'[k' + (i - k)]? = l[i]? := by
  obtain ⟨g, a, b, c, d⟩ := h
  have e : i = k + (i - k) := by omega
  rw [get_drop b, e, get_drop a, Nat.add_sub_cancel_left, List.getElem?_append_left (by omega), List.getElem?_append_left (by omega)]
theorem Gap.slc {l l' : List UInt8} {k k' n n' : Nat} (h : Gap l l' k k' n n') : slc l' k' n' = slc l k n := by
  obtain ⟨g, a, b, rfl, rfl⟩ := h
  rw [slc_drop a, slc_drop b]
theorem blank_gap {l l' : List UInt8} {k k' n n' : Nat} (h : Gap l l' k k' n n') (hb : blankE l k = some n) (hs : Stop blB l' n') : blankE l' k' = some n' := by
  obtain ⟨g, a, b, rfl, rfl⟩ := h
  unfold blankE blankL at hb ⊢
  rw [a] at hb
  rw [b]
  split at hb
  · rename_i h0
    injection hb with hb
    have e : blGo (g ++ l.drop (k + g.length)).length (g ++ l.drop (k + g.length)) 0 = (0 + g.length, 0) := by
      refine Prod.ext ?_ h0
      show _ = 0 + g.length
      omega
    have := bl_gap (stop_iff.1 hs) _ g 0 (g ++ l'.drop (k' + g.length)).length (Nat.le_refl _) (Nat.le_refl _) e
    rw [this]
    simp
  · cases hb
theorem tw_inv (p : UInt8 → Bool) : ∀ (g r : List UInt8), tw p (g ++ r) = g.length → (∀ b ∈ g, p b = true) ∧ Stops p r
  | [], r, h => by
    refine ⟨fun b hb => by (cases hb), fun c r' e => ?_⟩
    subst e
    cases hp : p c with
    | false => rfl
    | true =>
      rw [List.nil_append, tw_yes p c r' hp] at h
      simp at h
  | b :: g, r, h => by
    rw [List.cons_append] at h
    cases hp : p b with
    | false =>
      rw [tw_no p b _ hp] at h
      simp at h
    | true =>
      rw [tw_yes p b _ hp] at h
      obtain ⟨h1, h2⟩ := tw_inv p g r (by simpa using h)
      refine ⟨fun c hc => ?_, h2⟩
      rcases List.mem_cons.1 hc with rfl | hc
      · exact hp
      · exact h1 c hc
theorem word_gap {l l' : List UInt8} {k k' n n' : Nat} (h : Gap l l' k k' n n') (hw : wordE l k = some n) (he : l'[n']? = l[n]?) : wordE l' k' = some n' := by
  have h0 : l'[k']? = l[k]? := by
    rcases Nat.lt_or_ge k n with hk | hk
    · have := h.get k (Nat.le_refl _) hk
      simpa using this
    · have := h.le
      have e1 : k = n := by omega
      have e2 : k' = n' := by omega
      rw [e1, e2]
      exact he
  obtain ⟨g, a, b, rfl, rfl⟩ := h
  unfold wordE at hw ⊢
  rw [h0]
  split at hw
  · rename_i h34
    rw [if_pos h34]
    split at hw
    · rename_i hq
      injection hw with hw
      rw [a] at hq hw
      have e1 := quoted_cut g _ hq (by omega)
      have e2 := quoted_app g (l'.drop (k' + g.length)) (by rw [e1]; exact hq)
      rw [b, e2, e1, if_pos hq]
      congr 1
      omega
    · cases hw
  · rename_i h34
    rw [if_neg h34]
    injection hw with hw
    rw [a] at hw
    obtain ⟨h1, h2⟩ := tw_inv wordB g (l.drop (k + g.length)) (by omega)
    rw [b, tw_all wordB g _ h1 (stop_iff.1 ((stop_iff.2 h2).of he))]
theorem dom_gap {l l' : List UInt8} {k k' n n' : Nat} (h : Gap l l' k k' n n') (hd : domE l k = some n) (hn' : n' ≤ l'.length) (hs : Stop hostdotB l' n') : domE l' k' = some n' := by
  have hle := h.le
  obtain ⟨g, a, b, rfl, rfl⟩ := h
  unfold domE at hd ⊢
  split at hd
  · rename_i h91
    split at hd
    · rename_i hlt
      injection hd with hd
      have hg : 0 < g.length := by omega
      have h0 : l'[k']? = some 91 := by
        have e1 := get_drop b 0
        have e2 := get_drop a 0
        rw [List.getElem?_append_left hg] at e1 e2
        rw [Nat.add_zero] at e1 e2
        rw [e1, ← e2, h91]
      rw [if_pos h0]
      have ht : tw notEnd (l'.drop k') = tw notEnd (l.drop k) := by
        have hsp : g = g.take (g.length - 1) ++ g.drop (g.length - 1) := (List.take_append_drop _ _).symm
        have hla : (g.take (g.length - 1)).length = g.length - 1 := by rw [List.length_take]; omega
        have hlb : (g.drop (g.length - 1)).length = 1 := by rw [List.length_drop]; omega
        have e1 : l.drop k = g.take (g.length - 1) ++ (g.drop (g.length - 1) ++ l.drop (k + g.length)) := by rw [← List.append_assoc, List.take_append_drop, a]
        have e2 : l'.drop k' = g.take (g.length - 1) ++ (g.drop (g.length - 1) ++ l'.drop (k' + g.length)) := by rw [← List.append_assoc, List.take_append_drop, b]
        obtain ⟨h1, h2⟩ := tw_inv notEnd (g.take (g.length - 1)) _ (by rw [← e1, hla]; omega)
        have h3 : Stops notEnd (g.drop (g.length - 1) ++ l'.drop (k' + g.length)) := by
          match hx : g.drop (g.length - 1), hlb with
          | [c], _ =>
            rw [hx] at h2
            intro c' r' e
            injection e with e3 e4
            subst e3
            exact h2 c _ rfl
        rw [e2, tw_all notEnd _ _ h1 h3, hla]
        omega
      rw [ht, if_pos (by omega)]
      congr 1
      omega
    · cases hd
  · rename_i h91
    split at hd
    · cases hd
    · rename_i h0
      injection hd with hd
      rw [a] at hd h0
      obtain ⟨h1, h2⟩ := tw_inv hostdotB g (l.drop (k + g.length)) (by omega)
      have hg : 0 < g.length := by omega
      have e0 : l'[k']? = l[k]? := by
        have e1 := get_drop b 0
        have e2 := get_drop a 0
        rw [List.getElem?_append_left hg] at e1 e2
        rw [Nat.add_zero] at e1 e2
        rw [e1, ← e2]
      rw [if_neg (by rw [e0]; exact h91), b, tw_all hostdotB g _ h1 (stop_iff.1 hs), if_neg (by omega)]
theorem words_gap {l l' : List UInt8} : ∀ (f : Nat) {k k' n n' m e m' e' : Nat}, Gap l l' k k' n n' → k ≤ l.length → n' ≤ l'.length → wordsE f l k m e = some (n, m', e') → l'[n']? = l[n]? → ∀ e1, ∃ e2, Words l' k' m e1 (n', m', e2)
  | 0, k, k', n, n', m, e, m', e', _, _, _, h, _ => by cases h
  | f + 1, k, k', n, n', m, e, m', e', hg, hk, hn', h, he => fun e1 => by
    have hle := hg.le
    rw [wordsE] at h
    split at h
    · cases h
    · rename_i j hj
      have hj1 := wordE_le hk hj
      split at h
      · rename_i hjk
        injection h with h; injection h with h1 h; injection h with h2 h3
        subst h1; subst h2; subst hjk
        have e3 : n' = k' := by omega
        subst e3
        refine ⟨e1, words_stop hn' (word_gap hg hj he)⟩
      · rename_i hjk
        split at h
        · cases h
        · rename_i i' hi
          have hi1 := blankE_le hj1.2 hi
          have hwl := wordsE_le f hi1.2 hi1.1 h
          obtain ⟨g1, g2⟩ := hg.split j hj1.1 (by omega)
          obtain ⟨g3, g4⟩ := g2.split i' hi1.1 (by omega)
          have hp : l'[k' + (i' - k)]? = l[i']? := by
            rcases Nat.lt_or_ge i' n with hx | hx
            · exact hg.get i' (by omega) hx
            · have e3 : i' = n := by omega
              have e4 : k' + (i' - k) = n' := by omega
              rw [e4, e3]
              exact he
          have hpj : l'[k' + (j - k)]? = l[j]? := by
            rcases Nat.lt_or_ge j n with hx | hx
            · exact hg.get j (by omega) hx
            · have e3 : j = n := by omega
              have e4 : k' + (j - k) = n' := by omega
              rw [e4, e3]
              exact he
          have ei : k' + (j - k) + (i' - j) = k' + (i' - k) := by omega
          rw [ei] at g3 g4
          obtain ⟨e2, hw⟩ := words_gap f g4 hi1.2 hn' h he (k' + (j - k))
          exact ⟨e2, words_step (by omega) (word_gap g1 hj hpj) (by omega) (blank_gap g3 hi ((blank_stop hi).of hp)) hw⟩
theorem words_zero {l : List UInt8} {f fr i e : Nat} (hk : fr ≤ l.length) (h : wordsE f l fr 0 fr = some (i, 0, e)) : i = fr ∧ wordE l fr = some fr := by
  cases f with
  | zero => cases h
  | succ f =>
    rw [wordsE] at h
    split at h
    · cases h
    · rename_i j hj
      have hj1 := wordE_le hk hj
      split at h
      · rename_i hjk
        injection h with h; injection h with h1 h
        exact ⟨h1.symm, by rw [hj, hjk]⟩
      · split at h
        · cases h
        · rename_i i' hi
          have hi1 := blankE_le hj1.2 hi
          have := wordsE_le f hi1.2 hi1.1 h
          omega
theorem words_one {l : List UInt8} {f fr i : Nat} (hk : fr ≤ l.length) (h : wordsE f l fr 0 fr = some (i, 1, i)) : wordE l fr = some i := by
  cases f with
  | zero => cases h
  | succ f =>
    rw [wordsE] at h
    split at h
    · cases h
    · rename_i j hj
      have hj1 := wordE_le hk hj
      split at h
      · injection h with h; injection h with h1 h; injection h with h2 h3
        cases h2
      · split at h
        · cases h
        · rename_i i' hi
          have hi1 := blankE_le hj1.2 hi
          cases f with
          | zero => cases h
          | succ f =>
            rw [wordsE] at h
            split at h
            · cases h
            · rename_i j2 hj2
              have hj3 := wordE_le hi1.2 hj2
              split at h
              · injection h with h; injection h with h1 h; injection h with h2 h3
                rw [hj, h3]
              · split at h
                · cases h
                · rename_i i2 hi2
                  have hi3 := blankE_le hj3.2 hi2
                  have := wordsE_le f hi3.2 hi3.1 h
                  omega
theorem route_gap {l l' : List UInt8} : ∀ (f : Nat) {k k' n n' : Nat} {g : Bool}, Gap l l' k k' n n' → n' ≤ l'.length → routeE f l k g = some (n, false) → ∀ f', l'.length - k' < f' → routeE f' l' k' false = some (n', false)
  | 0, k, k', n, n', g, _, _, h => by cases h
  | f + 1, k, k', n, n', g, hg, hn', h => fun f' hf' => by
    obtain ⟨f', rfl⟩ : ∃ x, f' = x + 1 := ⟨f' - 1, by omega⟩
    have hle := hg.le
    have hrl := routeE_le _ h
    rw [routeE] at h
    split at h
    · cases h
    · rename_i h64
      have h64 := Classical.not_not.1 h64
      have hk0 := at_lt h64
      have h64' : l'[k']? = some 64 := by
        have := hg.get k (Nat.le_refl _) (by omega)
        simpa [h64] using this
      split at h
      · cases h
      · rename_i t ht
        have hd := domE_le (by omega) ht
        split at h
        · cases h
        · rename_i hp5
          have htn : t < n := by
            split at h
            · injection h with h; injection h with h _; omega
            · split at h
              · rename_i hx
                have := routeE_le _ h
                omega
              · cases h
          obtain ⟨g1, g2⟩ := hg.split t (by omega) (by omega)
          obtain ⟨-, g3⟩ := g1.split (k + 1) (by omega) (by omega)
          have ht' := hg.get t (by omega) htn
          have e1 : k' + (k + 1 - k) = k' + 1 := by omega
          rw [e1] at g3
          have hcut : ∀ c, l[t]? = some c → hostdotB c = false → domE l' (k' + 1) = some (k' + (t - k)) := fun c hc hb => dom_gap g3 ht (by omega) (Stop.byte (by rw [ht', hc]) hb)
          have hsl := g1.slc
          split at h
          · rename_i h58
            injection h with h; injection h with h1 h2
            have hpp : ((parseL (120 :: slc l k t)).2.2 != 0) = false := (Bool.or_eq_false_iff.1 h2).2
            rw [routeE, if_neg (by rw [h64']; simp), hcut 58 h58 (by decide)]
            simp only
            rw [hsl, if_neg hp5, if_pos (by rw [ht', h58]), hpp]
            simp only [Bool.or_self, Option.some.injEq, Prod.mk.injEq, and_true]
            omega
          · rename_i h58
            split at h
            · rename_i h44
              have hlong := routeE_long f h rfl
              have hpp : ((parseL (120 :: slc l k t)).2.2 != 0) = false := (Bool.or_eq_false_iff.1 hlong).2
              obtain ⟨-, g4⟩ := g2.split (t + 1) (by omega) (by omega)
              have e2 : k' + (t - k) + (t + 1 - t) = k' + (t - k) + 1 := by omega
              rw [e2] at g4
              have ih := route_gap f g4 hn' h f' (by omega)
              rw [routeE, if_neg (by rw [h64']; simp), hcut 44 h44 (by decide)]
              simp only
              rw [hsl, if_neg hp5, if_neg (by rw [ht']; exact h58), if_pos (by rw [ht', h44]), hpp]
              simpa using ih
            · cases h
end Go.Proofs.YtffngbjnbigipaaGreatDoor

/- Other addresses put into a list: the reader finds just them, each where it was put. Plain Lean. -/
namespace Go.Proofs.YtffngbjnbigipaaGreatDoor
open Go.RowKit Go.Lib
set_option linter.unusedSimpArgs false
set_option linter.unusedVariables false
set_option linter.unnecessarySimpa false
set_option maxRecDepth 100000

theorem slc_cut (l : List UInt8) (k n m : Nat) (h1 : k ≤ n) (h2 : n ≤ m) : slc l k m = slc l k n ++ slc l n m := by
  unfold slc
  rw [List.drop_take, List.drop_take, List.drop_take]
  have e : m - k = (n - k) + (m - n) := by omega
  rw [e, List.take_add, List.drop_drop]
  congr 3
  omega
theorem drop_cut (l : List UInt8) (k n : Nat) (h1 : k ≤ n) : l.drop k = slc l k n ++ l.drop n := by
  unfold slc
  rw [List.drop_take]
  have e : n = k + (n - k) := by omega
  rw [e, ← List.drop_drop, Nat.add_sub_cancel_left, List.take_append_drop]
theorem slc_size (l : List UInt8) (k n : Nat) (h : n ≤ l.length) : (slc l k n).length = n - k := by
  unfold slc
  rw [List.length_drop, List.length_take]
  omega
/-- what stands at a spot: its text, and what is read of it. -/
abbrev HT := List UInt8 × List UInt8 × List UInt8
/-- a text that is read as a spot wherever it stands. -/
structure Hole (y : HT) : Prop where
  first : ∃ c t, y.1 = c :: t ∧ blB c = false ∧ c ≠ 64
  read : ∀ (l r : List UInt8) (k : Nat), l.drop k = y.1 ++ r → Stops hostdotB r → ∃ e, wordE l k = some e ∧ k < e ∧ l[e]? = some 64 ∧ ∀ st : LSt, addrE l k e st = some (k + y.1.length, st.1 ++ [(k, k + y.1.length, y.2.1, y.2.2)], st.2)
theorem hole_may {a : List UInt8 × List UInt8} (h : mayL a = true) : Hole (textL a, a) := by
  refine ⟨?_, fun l r k hd hr => ?_⟩
  · obtain ⟨c, t, hc, h1, h2, h3, -, h4⟩ := word_first h
    refine ⟨c, t, hc, ?_, h4⟩
    simp [blB, h1, h2, h3]
  · refine ⟨_, (addr_read (st := ([], false)) h hd hr).1, ?_, (addr_read (st := ([], false)) h hd hr).2.1, fun st => (addr_read (st := st) h hd hr).2.2.2⟩
    have := (addr_read (st := ([], false)) h hd hr).2.2.1
    omega
theorem addr_inv {l : List UInt8} {a b n : Nat} {st : LSt} {sp : List Sp} (h : addrE l a b st = some (n, sp, false)) :
    st.2 = false ∧ a < b ∧ l[b]? = some 64 ∧ domE l (b + 1) = some n ∧ (parseL (slc l a n)).2.2 = 0 ∧ sp = st.1 ++ [(a, n, (parseL (slc l a n)).1, (parseL (slc l a n)).2.1)] := by
  unfold addrE at h
  split at h
  · cases h
  · split at h
    · cases h
    · rename_i h1 h2
      split at h
      · cases h
      · rename_i t ht
        split at h
        · cases h
        · rename_i h5
          injection h with h; injection h with h h'; injection h' with h' h''
          subst h
          obtain ⟨h3, h4⟩ := Bool.or_eq_false_iff.1 h''
          exact ⟨h3, by omega, Classical.not_not.1 h2, ht, by simpa using h4, h'.symm⟩
/-- what was read as a spot is read so elsewhere. -/
theorem hole_old {l : List UInt8} {a b n : Nat} (hw : wordE l a = some b) (hab : a < b) (h64 : l[b]? = some 64) (hd : domE l (b + 1) = some n) (hp : (parseL (slc l a n)).2.2 = 0) :
    Hole (slc l a n, (parseL (slc l a n)).1, (parseL (slc l a n)).2.1) := by
  have hbl := at_lt h64
  have hdl := domE_le (by omega) hd
  have hlen : (slc l a n).length = n - a := by unfold slc; rw [List.length_drop, List.length_take]; omega
  have hla : l.drop a = slc l a n ++ l.drop n := drop_cut l a n (by omega)
  refine ⟨?_, fun l2 r k hk hr => ?_⟩
  · have hne : (slc l a n) ≠ [] := by
      intro e
      rw [e] at hlen
      simp at hlen
      omega
    obtain ⟨c, t, hct⟩ := List.exists_cons_of_ne_nil hne
    have hca : l[a]? = some c := by
      have := get_drop hla 0
      rw [hct] at this
      simpa using this
    refine ⟨c, t, hct, ?_⟩
    unfold wordE at hw
    split at hw
    · rename_i h34
      rw [hca] at h34
      injection h34 with h34
      subst h34
      exact ⟨by decide, by decide⟩
    · injection hw with hw
      have hpos : 0 < tw wordB (l.drop a) := by omega
      rw [hla, hct] at hpos
      have hwc : wordB c = true := by
        cases hx : wordB c with
        | true => rfl
        | false =>
          rw [List.cons_append, tw_no wordB c _ hx] at hpos
          omega
      have := byte_all (fun c => !wordB c || (!blB c && c != 64)) (by decide) c
      simp only [hwc, Bool.not_true, Bool.false_or, Bool.and_eq_true, Bool.not_eq_true', bne_iff_ne] at this
      exact this
  · have hk2 : l2.drop (k + (slc l a n).length) = r := drop_more hk
    have hl2 : k + (n - a) ≤ l2.length := by
      have := congrArg List.length hk
      rw [List.length_drop, List.length_append, hlen] at this
      omega
    have G : Gap l l2 a k n (k + (n - a)) := ⟨slc l a n, hla, by rw [← hlen, hk2]; exact hk, by omega, by omega⟩
    obtain ⟨g1, g2⟩ := G.split b (by omega) (by omega)
    obtain ⟨-, g3⟩ := g2.split (b + 1) (by omega) (by omega)
    have h64' : l2[k + (b - a)]? = some 64 := by rw [G.get b (by omega) (by omega), h64]
    have e1 : k + (b - a) + (b + 1 - b) = k + (b - a) + 1 := by omega
    rw [e1] at g3
    refine ⟨k + (b - a), word_gap g1 hw (by rw [h64', h64]), by omega, h64', fun st => ?_⟩
    have hd2 := dom_gap g3 hd hl2 (stop_iff.2 (by rw [← hlen, hk2]; exact hr))
    unfold addrE
    rw [if_neg (by omega), if_neg (by rw [h64']; simp), hd2]
    simp only
    rw [G.slc, hp]
    simp only [hlen]
    rw [if_neg (by omega)]
    simp
/-! a text with other texts put at its spots -/
def fillR (l : List UInt8) : Nat → List (Sp × HT) → List UInt8
  | k, [] => l.drop k
  | k, (x, y) :: q => slc l k x.1 ++ (y.1 ++ fillR l x.2.1 q)
/-- where in the new text the place k of the old one is. -/
def plc (l l' : List UInt8) (k : Nat) (q : List (Sp × HT)) : Nat := l'.length - (fillR l k q).length
/-- the new spots. -/
def nsp (l l' : List UInt8) : List (Sp × HT) → List (Sp × HT) → List Sp
  | [], _ => []
  | (x, y) :: z, q => (l'.length - (y.1 ++ fillR l x.2.1 (z ++ q)).length, plc l l' x.2.1 (z ++ q), y.2) :: nsp l l' z q
theorem nsp_append (l l' : List UInt8) (z z' q : List (Sp × HT)) : nsp l l' (z ++ z') q = nsp l l' z (z' ++ q) ++ nsp l l' z' q := by
  induction z with
  | nil => rfl
  | cons x z ih =>
    obtain ⟨x, y⟩ := x
    simp only [List.cons_append, nsp, List.append_assoc, ih]
def In : Nat → List Sp → Nat → Prop
  | k, [], n => k ≤ n
  | k, x :: z, n => k ≤ x.1 ∧ x.1 < x.2.1 ∧ In x.2.1 z n
theorem In.le : ∀ {k : Nat} {z : List Sp} {n : Nat}, In k z n → k ≤ n
  | _, [], _, h => h
  | _, _ :: _, _, h => by have := h.2.2.le; have := h.1; have := h.2.1; omega
theorem In.weak : ∀ {k : Nat} {z : List Sp} {n : Nat} (k' n' : Nat), In k z n → k' ≤ k → n ≤ n' → In k' z n'
  | _, [], _, k', n', h, h1, h2 => by have : _ ≤ _ := h; show k' ≤ n'; omega
  | _, _ :: _, _, k', n', h, h1, h2 => ⟨by have := h.1; omega, h.2.1, h.2.2.weak _ _ (Nat.le_refl _) h2⟩
theorem In.append : ∀ {k : Nat} {z : List Sp} {m n : Nat} {z' : List Sp}, In k z m → In m z' n → In k (z ++ z') n
  | _, [], _, _, _, h, h' => h'.weak _ _ h (Nat.le_refl _)
  | _, _ :: _, _, _, _, h, h' => ⟨h.1, h.2.1, h.2.2.append h'⟩
def Par (l l' : List UInt8) (k : Nat) (q : List (Sp × HT)) : Prop := ∃ p, l' = p ++ fillR l k q
theorem fill_cut {l : List UInt8} {k n : Nat} {q : List (Sp × HT)} (hk : k ≤ n) (h : In n (q.map Prod.fst) l.length) : fillR l k q = slc l k n ++ fillR l n q := by
  cases q with
  | nil => exact drop_cut l k n hk
  | cons x q =>
    obtain ⟨x, y⟩ := x
    simp only [List.map_cons] at h
    simp only [fillR]
    rw [slc_cut l k n x.1 hk h.1, List.append_assoc]
theorem par_drop {l l' : List UInt8} {k : Nat} {q : List (Sp × HT)} (h : Par l l' k q) : l'.drop (plc l l' k q) = fillR l k q ∧ plc l l' k q ≤ l'.length := by
  obtain ⟨p, h⟩ := h
  unfold plc
  refine ⟨?_, by omega⟩
  have e : l'.length - (fillR l k q).length = p.length := by
    have := congrArg List.length h
    rw [List.length_append] at this
    omega
  rw [e, h]
  simp
theorem par_go {l l' : List UInt8} {k : Nat} {q : List (Sp × HT)} (n : Nat) (h : Par l l' k q) (hk : k ≤ n) (hq : In n (q.map Prod.fst) l.length) : Par l l' n q ∧ plc l l' n q = plc l l' k q + (n - k) ∧ Gap l l' k (plc l l' k q) n (plc l l' n q) := by
  have hf := fill_cut hk hq
  have hn := hq.le
  have hl := slc_size l k n hn
  have hp : Par l l' n q := by
    obtain ⟨p, h⟩ := h
    exact ⟨p ++ slc l k n, by rw [List.append_assoc, ← hf]; exact h⟩
  have hlen : (fillR l k q).length = (n - k) + (fillR l n q).length := by rw [hf, List.length_append, hl]
  have hle : (fillR l k q).length ≤ l'.length := by
    obtain ⟨p, h⟩ := h
    have := congrArg List.length h
    rw [List.length_append] at this
    omega
  have he : plc l l' n q = plc l l' k q + (n - k) := by
    unfold plc
    omega
  refine ⟨hp, he, slc l k n, drop_cut l k n hk, ?_, by omega, by rw [hl]; exact he⟩
  rw [(par_drop h).1, (par_drop hp).1, hf]
theorem par_head {l l' : List UInt8} {n : Nat} {q : List (Sp × HT)} (h : Par l l' n q) (hq : In (n + 1) (q.map Prod.fst) l.length) : l'[plc l l' n q]? = l[n]? ∧ plc l l' (n + 1) q = plc l l' n q + 1 ∧ Par l l' (n + 1) q := by
  obtain ⟨h1, h2, h3⟩ := par_go (n + 1) h (by omega) hq
  refine ⟨?_, by omega, h1⟩
  have := h3.get n (Nat.le_refl _) (by omega)
  simpa using this
theorem par_hole {l l' : List UInt8} {x : Sp} {y : HT} {q : List (Sp × HT)} (h : Par l l' x.1 ((x, y) :: q)) : l'.drop (plc l l' x.1 ((x, y) :: q)) = y.1 ++ l'.drop (plc l l' x.1 ((x, y) :: q) + y.1.length) ∧ Par l l' x.2.1 q ∧
    plc l l' x.2.1 q = plc l l' x.1 ((x, y) :: q) + y.1.length ∧ l'.length - (y.1 ++ fillR l x.2.1 q).length = plc l l' x.1 ((x, y) :: q) := by
  have hs : slc l x.1 x.1 = [] := by unfold slc; rw [List.drop_take]; simp
  have hf : fillR l x.1 ((x, y) :: q) = y.1 ++ fillR l x.2.1 q := by simp only [fillR]; rw [hs, List.nil_append]
  have hd := par_drop h
  have hp : Par l l' x.2.1 q := by
    obtain ⟨p, h⟩ := h
    exact ⟨p ++ y.1, by rw [List.append_assoc, ← hf]; exact h⟩
  have hle : (fillR l x.1 ((x, y) :: q)).length ≤ l'.length := by
    obtain ⟨p, h⟩ := h
    have := congrArg List.length h
    rw [List.length_append] at this
    omega
  have hlen : (fillR l x.1 ((x, y) :: q)).length = y.1.length + (fillR l x.2.1 q).length := by rw [hf, List.length_append]
  have he : plc l l' x.2.1 q = plc l l' x.1 ((x, y) :: q) + y.1.length := by
    unfold plc
    omega
  refine ⟨?_, hp, he, ?_⟩
  · rw [← he, (par_drop hp).1, hd.1, hf]
  · unfold plc
    rw [hf]
theorem par_after {l l' : List UInt8} {q : List (Sp × HT)} {n : Nat} (hq : In n (q.map Prod.fst) l.length) : ∀ {z : List (Sp × HT)} {k : Nat}, In k (z.map Prod.fst) n → Par l l' k (z ++ q) → Par l l' n q
  | [], _, h, hp => (par_go n hp h hq).1
  | (x, y) :: z, k, h, hp => by
    simp only [List.map_cons] at h
    have hx : In x.1 ((((x, y) :: z) ++ q).map Prod.fst) l.length := by
      simp only [List.cons_append, List.map_cons, List.map_append]
      exact ⟨Nat.le_refl _, h.2.1, h.2.2.append hq⟩
    have p1 := (par_go x.1 hp h.1 hx).1
    simp only [List.cons_append] at p1
    exact par_after hq h.2.2 (par_hole p1).2.1
theorem hole_stop {l' r : List UInt8} {k : Nat} {y : HT} (hy : Hole y) (h : l'.drop k = y.1 ++ r) : Stop blB l' k ∧ l'[k]? ≠ some 64 := by
  obtain ⟨c, t, hc, h1, h2⟩ := hy.first
  rw [hc, List.cons_append] at h
  have := at_drop h
  exact ⟨Stop.byte this h1, by rw [this]; simpa using h2⟩
/-- a place ahead of white space looks so, if the place behind it does. -/
theorem look_back {l l' : List UInt8} {k n : Nat} {q : List (Sp × HT)} (h : Par l l' k q) (hk : k ≤ n) (hq : In n (q.map Prod.fst) l.length) (hb : blankE l k = some n) (hs : Stop hostdotB l n) (he : l'[plc l l' n q]? = l[n]?) :
    Stop hostdotB l k ∧ l'[plc l l' k q]? = l[k]? ∧ blankE l' (plc l l' k q) = some (plc l l' n q) := by
  obtain ⟨h1, h2, h3⟩ := par_go n h hk hq
  have hbl := blank_gap h3 hb ((blank_stop hb).of he)
  rcases Nat.lt_or_ge k n with hx | hx
  · obtain ⟨c, hc, hc2⟩ := blank_first hb hx
    refine ⟨Stop.byte hc (blB_host hc2), ?_, hbl⟩
    have := h3.get k (Nat.le_refl _) hx
    simpa using this
  · obtain rfl : k = n := by omega
    exact ⟨hs, he, hbl⟩
/-- what a function of the reader finds in the old text, its like finds in the new one. -/
def Sim (l l' : List UInt8) (F F' : Nat → LSt → Option (Nat × LSt)) : Prop :=
  ∀ (k : Nat) (st : LSt) (n : Nat) (sp : List Sp), k ≤ l.length → F k st = some (n, sp, false) →
    st.2 = false ∧ ∃ new, sp = st.1 ++ new ∧ In k new n ∧ (∀ x ∈ new, Hole (slc l x.1 x.2.1, x.2.2)) ∧
      ∀ (z q : List (Sp × HT)), z.map Prod.fst = new → (∀ y ∈ z, Hole y.2) → In n (q.map Prod.fst) l.length → Par l l' k (z ++ q) → Stop hostdotB l n → l'[plc l l' n q]? = l[n]? →
        ∀ pre, F' (plc l l' k (z ++ q)) (pre, false) = some (plc l l' n q, pre ++ nsp l l' z q, false)
theorem sim_none (l l' : List UInt8) : Sim l l' (fun _ _ => none) (fun _ _ => none) := by intro k st n sp _ h; cases h
theorem map_one {z : List (Sp × HT)} {x : Sp} (h : z.map Prod.fst = [x]) : ∃ y, z = [(x, y)] := by
  match z, h with
  | [(a, y)], h =>
    simp only [List.map_cons, List.map_nil, List.cons.injEq, and_true] at h
    subst h
    exact ⟨y, rfl⟩
theorem sim_angle (l l' : List UInt8) : Sim l l' (angleE l) (angleE l') := by
  intro k st n sp hk h
  unfold angleE at h
  split at h
  · cases h
  · rename_i k1 hb1
    have h1 := blankE_le hk hb1
    split at h
    · cases h
    · rename_i k2 long hr
      have h2 := rouE_le h1.2 hr
      unfold angE2 at h
      split at h
      · cases h
      · rename_i k3 hb3
        have h3 := blankE_le h2.2 hb3
        split at h
        · cases h
        · rename_i e hw
          have hwl := wordE_le h3.2 hw
          split at h
          · cases h
          · rename_i k4 st4 ha
            unfold closE at h
            split at h
            · cases h
            · rename_i k5 hb5
              split at h
              · rename_i h62
                injection h with h; injection h with hn hst
                subst hst
                obtain ⟨hl0, hab, h64, hd, hp, hsp⟩ := addr_inv ha
                have hl0 : long = false := hl0
                subst hl0
                have hst2 : st.2 = false := rouE_long hr rfl
                have hal := addrE_le ha
                have h5 := blankE_le hal.2.2 hb5
                have h62l := at_lt h62
                refine ⟨hst2, [(k3, k4, (parseL (slc l k3 k4)).1, (parseL (slc l k3 k4)).2.1)], hsp, ⟨by show k ≤ k3; omega, by show k3 < k4; omega, by show k4 ≤ n; omega⟩, ?_, ?_⟩
                · intro x hx
                  obtain rfl := List.mem_singleton.1 hx
                  exact hole_old hw hab h64 hd hp
                · intro z q hz hy hq hpar hst hlook pre
                  obtain ⟨y, rfl⟩ := map_one hz
                  have hy1 : Hole y := hy _ (List.mem_singleton.2 rfl)
                  subst hn
                  generalize hx : ((k3, k4, (parseL (slc l k3 k4)).1, (parseL (slc l k3 k4)).2.1) : Sp) = x at *
                  have hx1 : x.1 = k3 := by rw [← hx]
                  have hx2 : x.2.1 = k4 := by rw [← hx]
                  have q4 : In k4 (q.map Prod.fst) l.length := hq.weak _ _ (by omega) (Nat.le_refl _)
                  have q5 : In k5 (q.map Prod.fst) l.length := hq.weak _ _ (by omega) (Nat.le_refl _)
                  have inq : ∀ m, m ≤ k3 → In m ((([(x, y)] : List (Sp × HT)) ++ q).map Prod.fst) l.length := fun m hm => by
                    simp only [List.singleton_append, List.map_cons]
                    exact ⟨by omega, by omega, by rw [hx2]; exact q4⟩
                  obtain ⟨p1, -, G1⟩ := par_go k1 hpar h1.1 (inq k1 (by omega))
                  obtain ⟨p2, -, G2⟩ := par_go k2 p1 h2.1 (inq k2 (by omega))
                  obtain ⟨p3, -, G3⟩ := par_go k3 p2 h3.1 (inq k3 (by omega))
                  have ph : Par l l' x.1 ((x, y) :: q) := by rw [hx1]; exact p3
                  obtain ⟨d1, p4, e4, e5⟩ := par_hole ph
                  rw [hx1] at d1 e4 e5
                  rw [hx2] at p4 e4 e5
                  obtain ⟨s1, s2⟩ := hole_stop hy1 d1
                  have hlook5 := par_head (par_go k5 p4 h5.1 q5).1 hq
                  have hst5 : Stop hostdotB l k5 := Stop.byte h62 (by decide)
                  obtain ⟨l1, l2, l3⟩ := look_back p4 h5.1 q5 hb5 hst5 hlook5.1
                  obtain ⟨e', w1, w2, w3, w4⟩ := hy1.read l' _ _ d1 (stop_iff.1 (by rw [← e4]; exact l1.of l2))
                  have hk13 : l[k1]? = some 64 → k1 < k3 := by
                    intro h
                    unfold rouE at hr
                    rw [if_pos h] at hr
                    have := routeE_le _ hr
                    omega
                  simp only [List.singleton_append] at G1 G2 G3 p1 p2 p3 ⊢
                  have same1 : k1 < k3 → l'[plc l l' k1 ((x, y) :: q)]? = l[k1]? := fun hlt => by
                    have hG := (par_go k3 p1 (by omega) (inq k3 (Nat.le_refl _))).2.2
                    have := hG.get k1 (Nat.le_refl _) hlt
                    simpa using this
                  have b1 : blankE l' (plc l l' k ((x, y) :: q)) = some (plc l l' k1 ((x, y) :: q)) := by
                    refine blank_gap G1 hb1 ?_
                    rcases Nat.lt_or_ge k1 k3 with hlt | hge
                    · exact (blank_stop hb1).of (same1 hlt)
                    · obtain rfl : k1 = k3 := by omega
                      exact s1
                  have r1 : rouE l' (plc l l' k1 ((x, y) :: q)) false = some (plc l l' k2 ((x, y) :: q), false) := by
                    rw [hst2] at hr
                    by_cases h64 : l[k1]? = some 64
                    · unfold rouE at hr ⊢
                      rw [if_pos h64] at hr
                      rw [if_pos (by rw [same1 (hk13 h64), h64])]
                      exact route_gap _ G2 (par_drop p2).2 hr _ (by omega)
                    · unfold rouE at hr ⊢
                      rw [if_neg h64] at hr
                      injection hr with hr; injection hr with hr _
                      subst hr
                      rw [if_neg]
                      rcases Nat.lt_or_ge k1 k3 with hlt | hge
                      · rw [same1 hlt]; exact h64
                      · obtain rfl : k1 = k3 := by omega
                        exact s2
                  have b3 : blankE l' (plc l l' k2 ((x, y) :: q)) = some (plc l l' k3 ((x, y) :: q)) := blank_gap G3 hb3 s1
                  unfold angleE
                  rw [b1]
                  simp only
                  rw [r1]
                  simp only [angE2]
                  rw [b3]
                  simp only
                  rw [w1]
                  simp only
                  rw [w4]
                  simp only [closE]
                  rw [← e4, l3]
                  simp only
                  rw [if_pos (by rw [hlook5.1, h62]), hlook5.2.1]
                  simp only [nsp, List.nil_append, hx2]
                  rw [e5]
              · cases h
theorem sim_mem {l l' : List UInt8} {inner inner' : Nat → LSt → Option (Nat × LSt)} (within : Bool) (hL : InnerLe l inner) (hI : Sim l l' inner inner') : Sim l l' (memE inner within l) (memE inner' within l') := by
  intro k st n sp hk h
  unfold memE at h
  split at h
  · cases h
  · rename_i fr hb
    have h1 := blankE_le hk hb
    split at h
    · cases h
    · rename_i i many e hw
      have h2 := wordsE_le _ h1.2 (Nat.le_refl _) hw
      unfold lastE at h
      split at h
      · cases h
      · rename_i k2 st2 ha
        have h3 := afterE_le hL h2.2.1 ha
        split at h
        · cases h
        · rename_i k3 hb3
          have h4 := blankE_le h3.2 hb3
          injection h with h; injection h with hn hst
          subst hst; subst hn
          have deep : ∀ (G G' : Nat → LSt → Option (Nat × LSt)), Sim l l' G G' → G (i + 1) st = some (k2, sp, false) → i < l.length → i + 1 ≤ k2 →
              st.2 = false ∧ ∃ new, sp = st.1 ++ new ∧ In k new k3 ∧ (∀ x ∈ new, Hole (slc l x.1 x.2.1, x.2.2)) ∧
                ∀ (z q : List (Sp × HT)), z.map Prod.fst = new → (∀ y ∈ z, Hole y.2) → In k3 (q.map Prod.fst) l.length → Par l l' k (z ++ q) → Stop hostdotB l k3 → l'[plc l l' k3 q]? = l[k3]? →
                  ∃ fr' e2, blankE l' (plc l l' k (z ++ q)) = some fr' ∧ wordsE (l'.length + 1) l' fr' 0 fr' = some (plc l l' i (z ++ q), many, e2) ∧ l'[plc l l' i (z ++ q)]? = l[i]? ∧
                    (∀ pre, G' (plc l l' i (z ++ q) + 1) (pre, false) = some (plc l l' k2 q, pre ++ nsp l l' z q, false)) ∧ blankE l' (plc l l' k2 q) = some (plc l l' k3 q) := by
            intro G G' hG ha hil hik
            obtain ⟨g1, new, g2, g3, g4, g5⟩ := hG _ _ _ _ (by omega) ha
            refine ⟨g1, new, g2, g3.weak _ _ (by omega) (by omega), g4, fun z q hz hy hq hpar hs he => ?_⟩
            have q2 : In k2 (q.map Prod.fst) l.length := hq.weak _ _ h4.1 (Nat.le_refl _)
            have qi : In (i + 1) ((z ++ q).map Prod.fst) l.length := by
              rw [List.map_append, hz]
              exact g3.append q2
            have inq : ∀ m, m ≤ i + 1 → In m ((z ++ q).map Prod.fst) l.length := fun m hm => qi.weak _ _ hm (Nat.le_refl _)
            obtain ⟨p1, -, G1⟩ := par_go fr hpar h1.1 (inq fr (by omega))
            obtain ⟨p2, -, G2⟩ := par_go i p1 h2.1 (inq i (by omega))
            obtain ⟨e3, e4, p3⟩ := par_head p2 qi
            obtain ⟨-, -, G4⟩ := par_go (i + 1) p1 (by omega) qi
            have hfr : l'[plc l l' fr (z ++ q)]? = l[fr]? := by
              have := G4.get fr (Nat.le_refl _) (by omega)
              simpa using this
            have b1 := blank_gap G1 hb ((blank_stop hb).of hfr)
            obtain ⟨e2, w⟩ := words_gap _ G2 h1.2 (par_drop p2).2 hw e3 (plc l l' fr (z ++ q))
            have pk2 : Par l l' k2 q := by
              exact par_after q2 (by rw [hz]; exact g3) p3
            obtain ⟨l1, l2, l3⟩ := look_back pk2 h4.1 hq hb3 hs he
            refine ⟨_, e2, b1, words_done w, e3, fun pre => ?_, l3⟩
            have := g5 z q hz hy q2 p3 l1 l2 pre
            rw [e4] at this
            exact this
          unfold afterE at ha
          split at ha
          · rename_i h64
            split at ha
            · rename_i hm
              obtain ⟨rfl, rfl⟩ := hm
              obtain ⟨hst, hab, -, hd, hp, hsp⟩ := addr_inv ha
              have hw1 := words_one h1.2 hw
              have hal := addrE_le ha
              refine ⟨hst, [(fr, k2, (parseL (slc l fr k2)).1, (parseL (slc l fr k2)).2.1)], hsp, ⟨by show k ≤ fr; omega, by show fr < k2; omega, by show k2 ≤ k3; omega⟩, ?_, ?_⟩
              · intro x hx
                obtain rfl := List.mem_singleton.1 hx
                exact hole_old hw1 hab h64 hd hp
              · intro z q hz hy hq hpar hs he pre
                obtain ⟨y, rfl⟩ := map_one hz
                have hy1 : Hole y := hy _ (List.mem_singleton.2 rfl)
                generalize hx : ((fr, k2, (parseL (slc l fr k2)).1, (parseL (slc l fr k2)).2.1) : Sp) = x at *
                have hx1 : x.1 = fr := by rw [← hx]
                have hx2 : x.2.1 = k2 := by rw [← hx]
                have q2 : In k2 (q.map Prod.fst) l.length := hq.weak _ _ h4.1 (Nat.le_refl _)
                have inq : In fr ((([(x, y)] : List (Sp × HT)) ++ q).map Prod.fst) l.length := by
                  simp only [List.singleton_append, List.map_cons]
                  exact ⟨by omega, by omega, by rw [hx2]; exact q2⟩
                obtain ⟨p1, -, G1⟩ := par_go fr hpar h1.1 inq
                have ph : Par l l' x.1 ((x, y) :: q) := by rw [hx1]; exact p1
                obtain ⟨d1, p4, e4, e5⟩ := par_hole ph
                rw [hx1] at d1 e4 e5
                rw [hx2] at p4 e4 e5
                obtain ⟨s1, s2⟩ := hole_stop hy1 d1
                obtain ⟨l1, l2, l3⟩ := look_back p4 h4.1 hq hb3 hs he
                obtain ⟨e', w1, w2, w3, w4⟩ := hy1.read l' _ _ d1 (stop_iff.1 (by rw [← e4]; exact l1.of l2))
                have b1 := blank_gap G1 hb s1
                obtain ⟨h5, h6⟩ := at64 w3
                have hlt := at_lt w3
                have hwd := words_done (words_step (e := plc l l' fr ((x, y) :: q)) (m := 0) (by omega) w1 w2 h5 (words_stop (m := 0 + 1) (by omega) h6))
                simp only [List.singleton_append] at b1 ⊢
                unfold memE
                rw [b1]
                simp only
                rw [hwd]
                simp only [lastE, afterE]
                rw [if_pos w3, if_pos ⟨trivial, trivial⟩, w4]
                simp only
                rw [← e4, l3]
                simp only [nsp, List.nil_append, hx2]
                rw [e5]
            · cases ha
          · rename_i h64
            split at ha
            · rename_i h60
              have hil := at_lt h60
              have hle := angleE_le (by omega) ha
              obtain ⟨g1, new, g2, g3, g4, g5⟩ := deep _ _ (sim_angle l l') ha hil hle.1
              refine ⟨g1, new, g2, g3, g4, fun z q hz hy hq hpar hs he pre => ?_⟩
              obtain ⟨fr', e2, a1, a2, a3, a4, a5⟩ := g5 z q hz hy hq hpar hs he
              unfold memE
              rw [a1]
              simp only
              rw [a2]
              simp only [lastE, afterE]
              rw [if_neg (by rw [a3]; exact h64), if_pos (by rw [a3, h60]), a4]
              simp only
              rw [a5]
            · rename_i h60
              split at ha
              · rename_i h58
                have hil := at_lt h58.1
                have hle := hL _ _ _ _ (by omega) ha
                obtain ⟨g1, new, g2, g3, g4, g5⟩ := deep _ _ hI ha hil hle.1
                refine ⟨g1, new, g2, g3, g4, fun z q hz hy hq hpar hs he pre => ?_⟩
                obtain ⟨fr', e2, a1, a2, a3, a4, a5⟩ := g5 z q hz hy hq hpar hs he
                unfold memE
                rw [a1]
                simp only
                rw [a2]
                simp only [lastE, afterE]
                rw [if_neg (by rw [a3]; exact h64), if_neg (by rw [a3]; exact h60), if_pos (by rw [a3]; exact h58), a4]
                simp only
                rw [a5]
              · rename_i h58
                split at ha
                · cases ha
                · rename_i hm0
                  obtain rfl : many = 0 := by omega
                  injection ha with ha; injection ha with ha ha'
                  subst ha
                  subst ha'
                  obtain ⟨rfl, hw0⟩ := words_zero h1.2 hw
                  have hb0 := blank_here (blank_stop hb)
                  obtain rfl : i = k3 := by
                    rw [hb0] at hb3
                    injection hb3
                  refine ⟨rfl, [], by simp, h1.1, fun x hx => (by cases hx), fun z q hz hy hq hpar hs he pre => ?_⟩
                  obtain rfl : z = [] := by simpa using hz
                  simp only [List.nil_append] at hpar ⊢
                  obtain ⟨p1, -, G1⟩ := par_go i hpar h1.1 hq
                  have b1 := blank_gap G1 hb ((blank_stop hb).of he)
                  have w1 := word_gap (l := l) (l' := l') (k := i) (k' := plc l l' i q) (n := i) (n' := plc l l' i q) ⟨[], rfl, rfl, rfl, rfl⟩ hw0 he
                  have b2 := blank_here ((blank_stop hb).of he)
                  unfold memE
                  rw [b1]
                  simp only
                  rw [words_done (words_stop (par_drop p1).2 w1)]
                  simp only [lastE, afterE]
                  rw [if_neg (by rw [he]; exact h64), if_neg (by rw [he]; exact h60), if_neg (by omega), if_neg (by omega)]
                  simp only
                  rw [b2]
                  simp [nsp]
theorem sim_mems {l l' : List UInt8} {mem mem' : Nat → LSt → Option (Nat × LSt)} (hL : InnerLe l mem) (hL' : InnerLe l' mem') (hM : Sim l l' mem mem') : ∀ f, Sim l l' (fun k st => memsE mem l f k st) (fun k st => memsE mem' l' (l'.length + 1) k st)
  | 0 => by intro k st n sp _ h; cases h
  | f + 1 => by
    intro k st n sp hk h
    simp only [memsE] at h
    split at h
    · cases h
    · rename_i k2 st2 hm
      have h1 := hL _ _ _ _ hk hm
      split at h
      · rename_i h44
        have hkl := at_lt h44
        obtain ⟨f1, new2, f2, f3, f4, f5⟩ := sim_mems hL hL' hM f _ _ _ _ (by omega) h
        have hle := memsE_le hL f _ _ _ _ (by omega) h
        obtain ⟨sp2, fl⟩ := st2
        simp only at f1 f2
        subst f1
        obtain ⟨g1, new1, g2, g3, g4, g5⟩ := hM _ _ _ _ hk hm
        refine ⟨g1, new1 ++ new2, by rw [f2, g2, List.append_assoc], (g3.weak k (k2 + 1) (Nat.le_refl _) (by omega)).append f3, ?_, ?_⟩
        · intro x hx
          rcases List.mem_append.1 hx with hx | hx
          · exact g4 x hx
          · exact f4 x hx
        · intro z q hz hy hq hpar hs he pre
          obtain ⟨z1, z2, rfl, hz1, hz2⟩ := List.map_eq_append_iff.1 hz
          have i2 : In (k2 + 1) ((z2 ++ q).map Prod.fst) l.length := by
            rw [List.map_append, hz2]
            exact f3.append hq
          have i1 : In k2 ((z2 ++ q).map Prod.fst) l.length := i2.weak _ _ (by omega) (Nat.le_refl _)
          rw [List.append_assoc] at hpar ⊢
          have p2 : Par l l' k2 (z2 ++ q) := par_after i1 (by rw [hz1]; exact g3) hpar
          obtain ⟨e1, e2, p3⟩ := par_head p2 i2
          have hm' := g5 z1 (z2 ++ q) hz1 (fun y h => hy y (List.mem_append_left _ h)) i1 hpar (Stop.byte h44 (by decide)) e1 pre
          have hr' : memsE mem' l' (l'.length + 1) (plc l l' (k2 + 1) (z2 ++ q)) (pre ++ nsp l l' z1 (z2 ++ q), false) = _ := f5 z2 q hz2 (fun y h => hy y (List.mem_append_right _ h)) hq p3 hs he (pre ++ nsp l l' z1 (z2 ++ q))
          rw [e2] at hr'
          have h44' : l'[plc l l' k2 (z2 ++ q)]? = some 44 := by rw [e1, h44]
          have hlt' := at_lt h44'
          show memsE mem' l' (l'.length + 1) (plc l l' k (z1 ++ (z2 ++ q))) (pre, false) = _
          rw [memsE, hm']
          simp only
          rw [if_pos h44', memsE_fuel mem' l' hL' l'.length (l'.length + 1) _ _ (by omega) (by omega) (by omega)]
          rw [hr', nsp_append, List.append_assoc]
      · rename_i h44
        injection h with h; injection h with h2 h3
        subst h2
        subst h3
        obtain ⟨g1, new1, g2, g3, g4, g5⟩ := hM _ _ _ _ hk hm
        refine ⟨g1, new1, g2, g3, g4, fun z q hz hy hq hpar hs he pre => ?_⟩
        have hm' := g5 z q hz hy hq hpar hs he pre
        show memsE mem' l' (l'.length + 1) (plc l l' k (z ++ q)) (pre, false) = _
        rw [memsE, hm']
        simp only
        rw [if_neg (by rw [he]; exact h44)]
theorem sim_inner (l l' : List UInt8) : Sim l l' (innerE l) (innerE l') := by
  intro k st n sp hk h
  unfold innerE at h
  split at h
  · cases h
  · rename_i k2 st2 hm
    split at h
    · rename_i h59
      injection h with h; injection h with hn hst
      subst hst; subst hn
      have hkl := at_lt h59
      obtain ⟨g1, new, g2, g3, g4, g5⟩ := sim_mems (memT_le l) (memT_le l') (sim_mem true (none_le l) (sim_none l l')) (l.length + 1) k st k2 sp hk hm
      refine ⟨g1, new, g2, g3.weak _ _ (Nat.le_refl _) (by omega), g4, fun z q hz hy hq hpar hs he pre => ?_⟩
      have q2 : In k2 (q.map Prod.fst) l.length := hq.weak _ _ (by omega) (Nat.le_refl _)
      have p2 := par_after q2 (by rw [hz]; exact g3) hpar
      obtain ⟨e1, e2, p3⟩ := par_head p2 hq
      have hm' : memsT l' (plc l l' k (z ++ q)) (pre, false) = _ := g5 z q hz hy q2 hpar (Stop.byte h59 (by decide)) e1 pre
      unfold innerE
      rw [hm']
      simp only
      rw [if_pos (by rw [e1, h59]), e2]
    · cases h
theorem sim_memF (l l' : List UInt8) : Sim l l' (memF l) (memF l') := sim_mem false (innerE_le l) (sim_inner l l')
theorem find_inv {l : List UInt8} {sp : List Sp} (h : findL l = (sp, 0)) : memsF l 0 ([], false) = some (l.length, sp, false) ∧ sp.length ≤ 64 := by
  obtain ⟨sp', g, h1, h2⟩ := findL_ne5 h (by decide)
  obtain ⟨rfl, h3, rfl⟩ := h2 rfl
  exact ⟨h1, h3⟩
/-- what was found is read so wherever it stands. -/
theorem find_holes {l : List UInt8} {sp : List Sp} (h : findL l = (sp, 0)) : In 0 sp l.length ∧ ∀ x ∈ sp, Hole (slc l x.1 x.2.1, x.2.2) := by
  obtain ⟨h1, -⟩ := find_inv h
  obtain ⟨-, new, g2, g3, g4, -⟩ := sim_mems (memF_le l) (memF_le l) (sim_memF l l) (l.length + 1) 0 ([], false) l.length sp (Nat.zero_le _) h1
  simp only [List.nil_append] at g2
  subst g2
  exact ⟨g3, g4⟩
/-- THE LAW: other texts put at the spots of a list: the reader finds just these. -/
theorem find_fill {l : List UInt8} {sp : List Sp} (h : findL l = (sp, 0)) (z : List (Sp × HT)) (hz : z.map Prod.fst = sp) (hy : ∀ y ∈ z, Hole y.2) : findL (fillR l 0 z) = (nsp l (fillR l 0 z) z [], 0) := by
  obtain ⟨h1, h2⟩ := find_inv h
  generalize hl' : fillR l 0 z = l'
  obtain ⟨-, new, g2, g3, g4, g5⟩ := sim_mems (memF_le l) (memF_le l') (sim_memF l l') (l.length + 1) 0 ([], false) l.length sp (Nat.zero_le _) h1
  simp only [List.nil_append] at g2
  subst g2
  have hpar : Par l l' 0 (z ++ []) := ⟨[], by rw [List.append_nil, List.nil_append, hl']⟩
  have pend : plc l l' l.length [] = l'.length := by simp [plc, fillR]
  have p0 : plc l l' 0 (z ++ []) = 0 := by
    rw [List.append_nil]
    unfold plc
    rw [hl']
    omega
  have hm := g5 z [] hz hy (Nat.le_refl _) hpar (fun c hc => by simp at hc) (by rw [pend]; simp) []
  rw [pend, p0, List.nil_append] at hm
  have hm' : memsF l' 0 ([], false) = some (l'.length, nsp l l' z [], false) := hm
  rw [findL_of hm']
  simp only [Bool.false_eq_true, if_false]
  have hlen : ∀ (z : List (Sp × HT)), (nsp l l' z []).length = z.length := fun z => by
    induction z with
    | nil => rfl
    | cons a z ih => obtain ⟨x, y⟩ := a; simp only [nsp, List.length_cons, ih]
  rw [if_neg]
  rw [hlen, ← List.length_map (f := Prod.fst), hz]
  omega
end Go.Proofs.YtffngbjnbigipaaGreatDoor

/- Several texts joined into one (a claim has a limit of files). -/
/- strings.Builder's WriteString and String in this seat's numbers (printed by mklay.py, types' numbers given by hand). -/
namespace Go.Proofs
set_option maxRecDepth 100000
def Tryz.lays166_ren : Go.Shelf.Ren := ⟨fun | 166 => 41 | 240 => 79 | 276 => 127 | n => n, fun | 0 => 0 | 3 => 3 | 4 => 4 | 5 => 5 | 9 => 9 | 20 => 20 | 37 => 80 | 70 => 79 | 72 => 82 | 75 => 85 | 80 => 89 | 164 => 146 | n => n, fun n => n⟩
theorem Tryz.lays166 : Go.Proofs.Lays.n166 Tryz.prog Tryz.lays166_ren := {
  mixed := by kernel_rfl
  f166 := Tryz.func41.trans (congrArg some (by kernel_rfl))
  f240 := Tryz.func79.trans (congrArg some (by kernel_rfl))
  f276 := Tryz.func127.trans (congrArg some (by kernel_rfl))
  t0 := Tryz.underlying0
  a0 := Tryz.isAgg0
  z0 := Tryz.sizeOf0
  v0 := Tryz.zeroValue0
  t3 := Tryz.underlying3
  a3 := Tryz.isAgg3
  z3 := Tryz.sizeOf3
  v3 := Tryz.zeroValue3
  t4 := Tryz.underlying4
  a4 := Tryz.isAgg4
  z4 := Tryz.sizeOf4
  v4 := Tryz.zeroValue4
  t9 := Tryz.underlying9
  a9 := Tryz.isAgg9
  z9 := Tryz.sizeOf9
  v9 := Tryz.zeroValue9
  t20 := Tryz.underlying20
  a20 := Tryz.isAgg20
  z20 := Tryz.sizeOf20
  v20 := Tryz.zeroValue20
  t37 := Tryz.underlying80
  a37 := Tryz.isAgg80
  z37 := Tryz.sizeOf80
  v37 := Tryz.zeroValue80
  t70 := Tryz.underlying79
  a70 := Tryz.isAgg79
  z70 := Tryz.sizeOf79
  v70 := Tryz.zeroValue79
  t72 := Tryz.underlying82
  a72 := Tryz.isAgg82
  z72 := Tryz.sizeOf82
  v72 := Tryz.zeroValue82
  t75 := Tryz.underlying85
  a75 := Tryz.isAgg85
  z75 := Tryz.sizeOf85
  v75 := Tryz.zeroValue85
  t164 := Tryz.underlying146
  a164 := Tryz.isAgg146
  z164 := Tryz.sizeOf146
  v164 := Tryz.zeroValue146 }
theorem Tryz.Builder_Extra_166 : Builder.Extra Tryz.prog Tryz.lays166_ren := {
  sizeBuilder := by kernel_rfl
  liesBuilder := by kernel_rfl
  t5 := Tryz.underlying5
  a5 := Tryz.isAgg5
  z5 := Tryz.sizeOf5
  v5 := Tryz.zeroValue5
  infoByte := by kernel_rfl
  cellsByte := by kernel_rfl
  sizeByte := by kernel_rfl
  neB5 := by decide }
open Go.RowKit in
theorem Tryz.WriteString_k (B b : Nat) (bs : List Value) (s : ByteArray) (w : World) (h : Lib.IsBuilderF 82 5 B b bs w) (hlen : bs.length + s.size ≤ 140737488355328) (hBw : B ≤ w.heap.size) :
    Calls Tryz.prog 41 #[.pointer (some ⟨b, 0, none⟩), .string s] w fun e w' => e = .returned (.tuple #[.int .i64 s.size, .nilIface]) ∧ (Lib.BuilderAtF 82 5 B b (.pointer (some ⟨b, 0, none⟩)) (bs ++ Lib.strCells s) w' ∧ Below B w w' ∧ Lib.OthersKept 5 (some b) w w') :=
  Any.Builder_WriteString_k Tryz.lays166 Tryz.Builder_Extra_166 B b bs s w h hlen hBw
end Go.Proofs

/- slices.ContainsFunc over a row of addresses, for list.Put's test. -/
namespace Go.Proofs.YtffngbjnbigipaaGreatDoor
open Go.RowKit Go.Lib
set_option linter.unusedSimpArgs false
set_option linter.unusedVariables false
set_option linter.unnecessarySimpa false
set_option maxRecDepth 100000

theorem clo54 (a : Ad) (h1 : a.1.length ≤ 1000000000) (h2 : a.2.length ≤ 1000000000) (w : World) (hE : Env w) : Calls Tryz.prog 54 #[addrV a] w fun e w' => e = .returned (.bool (!mayL a)) ∧ Below w.heap.size w w' := by
  have HM := Lib.hid (fun W (hE : Env W) => May_any a h1 h2 W hE)
  obtain ⟨x, y⟩ := a
  simp only [addrV] at HM ⊢
  generalize mayL (x, y) = M at HM ⊢
  have ht1 := Two.made w (.string ⟨x.toArray⟩) (.string ⟨y.toArray⟩) 30
  have hb1 := alloc_below w (.cells #[.string ⟨x.toArray⟩, .string ⟨y.toArray⟩] 30)
  generalize hw1 : w.alloc (.cells #[.string ⟨x.toArray⟩, .string ⟨y.toArray⟩] 30) = w1 at ht1 hb1
  obtain ⟨-, c0, c1, f0, f1⟩ := ht1
  go_enter Tryz.func54, Tryz.ntmps54
  go_wp2_with fail
  refine (HM.out _ (hE.below hb1)).mono ?_
  rintro e w2 ⟨rfl, hb2⟩
  go_wp2
  go_ret
  exact ⟨rfl, hb1.trans (hb2.mono hb1.size)⟩
def CoRel (l : List Ad) (w : World) (g : Nat) (v8 : Value) (W : World) : Prop :=
  ∃ k : Nat, v8 = .int .i64 (k : Int) ∧ k ≤ l.length ∧ g = l.length - k ∧ Below w.heap.size w W ∧ (∀ (i : Nat) (a : Ad), i < k → l[i]? = some a → mayL a = true)
set_option maxHeartbeats 4000000 in
theorem Index_addr (l : List Ad) (v : Value) (w : World) (hrow : ARow w v l) (hl : l.length ≤ 1000000) (hA : ∀ a ∈ l, a.1.length ≤ 1000000000 ∧ a.2.length ≤ 1000000000) (hE : Env w) :
    Calls Tryz.prog 98 #[v, .func (.func 54) #[] #[]] w fun e w' => ∃ i : Int, e = .returned (.int .i64 i) ∧ decide (0 ≤ i) = (l.any fun a => !mayL a) ∧ Below w.heap.size w w' := by
  have HROW := Lib.hid hrow
  obtain ⟨p, cap, rfl, -⟩ := hrow
  have HE := Lib.hid hE
  clear hE
  go_enter Tryz.func98, Tryz.ntmps98
  go_wp2_with fail
  go_loopg [8] l.length (fun g v8 W => CoRel l w g v8 W)
  case atStart => exact ⟨0, rfl, Nat.zero_le _, rfl, Below.refl _ _, fun i a h => by omega⟩
  case round =>
    obtain ⟨k, rfl, hk, hg, hb, hall⟩ := hrel
    have HG := Lib.hid hg
    have HB := Lib.hid hb
    have HALL := Lib.hid hall
    clear hg hb hall
    by_cases hlt : k < l.length
    · have hk0 : (0 : Int) ≤ (k : Int) := by omega
      have hk1 : (k : Int) < (l.length : Int) := by omega
      have hwk : IntKind.i64.wrap ((k : Int) + 1) = (k : Int) + 1 := by rw [IntKind.wrap_i64]; omega
      have hr := HROW.out.below HB.out
      obtain ⟨p', cap', he, h | ⟨b, hp, h⟩⟩ := hr
      · rw [h] at hlt; simp at hlt
      obtain rfl : cap = cap' := by injection he
      obtain rfl : p = p' := by injection he
      subst hp
      clear he
      obtain ⟨c0, c1⟩ := h k _ (List.getElem?_eq_getElem hlt)
      have HC := Lib.hid (clo54 l[k] (hA _ (List.getElem_mem hlt)).1 (hA _ (List.getElem_mem hlt)).2 wr (HE.out.below HB.out))
      have HK := Lib.hid (show l[k]? = some l[k] from List.getElem?_eq_getElem hlt)
      have HMEM := Lib.hid (List.getElem_mem hlt)
      generalize l[k] = a at c0 c1 HC HK HMEM
      obtain ⟨x, y⟩ := a
      simp only [addrV] at HC c0 c1
      clear h
      cases hm : mayL (x, y) with
      | true =>
        rw [hm] at HC
        have HM := Lib.hid hm
        clear hm
        go_wp2_with fail
        refine HC.out.mono ?_
        rintro e w2 ⟨rfl, hb2⟩
        go_wp2_with fail
        go_roundg (l.length - (k + 1))
        case rel =>
          refine ⟨k + 1, by go_num, by omega, rfl, HB.out.trans (hb2.mono HB.out.size), fun i a hi ha => ?_⟩
          by_cases hik : i < k
          · exact HALL.out i a hik ha
          · obtain rfl : i = k := by omega
            rw [HK.out] at ha
            cases ha
            exact HM.out
        case measure => have := HG.out; omega
      | false =>
        rw [hm] at HC
        have HM := Lib.hid hm
        clear hm
        go_wp2_with fail
        refine HC.out.mono ?_
        rintro e w2 ⟨rfl, hb2⟩
        go_wp2
        go_ret
        refine ⟨_, rfl, ?_, HB.out.trans (hb2.mono HB.out.size)⟩
        rw [decide_eq_true hk0, eq_comm, List.any_eq_true]
        exact ⟨_, HMEM.out, by rw [HM.out]; rfl⟩
    · have hge : ¬ (k : Int) < (l.length : Int) := by omega
      go_wp2
      go_ret
      refine ⟨_, rfl, ?_, HB.out⟩
      rw [eq_comm, show decide ((0 : Int) ≤ -1) = false from rfl, List.any_eq_false]
      intro a ha
      obtain ⟨i, hi, rfl⟩ := List.getElem_of_mem ha
      rw [HALL.out i l[i] (by omega) (List.getElem?_eq_getElem hi)]
      simp
set_option maxHeartbeats 1000000 in
theorem Contains_addr (l : List Ad) (v : Value) (w : World) (hrow : ARow w v l) (hl : l.length ≤ 1000000) (hA : ∀ a ∈ l, a.1.length ≤ 1000000000 ∧ a.2.length ≤ 1000000000) (hE : Env w) :
    Calls Tryz.prog 53 #[v, .func (.func 54) #[] #[]] w fun e w' => e = .returned (.bool (l.any fun a => !mayL a)) ∧ Below w.heap.size w w' := by
  have HI := Lib.hid (Index_addr l v w hrow hl hA hE)
  generalize (l.any fun a => !mayL a) = M at HI ⊢
  clear hrow hE hA
  go_enter Tryz.func53, Tryz.ntmps53
  go_wp2_with fail
  refine HI.out.mono ?_
  rintro e w2 ⟨i, rfl, hi, hb2⟩
  go_wp2
  go_ret
  subst hi
  exact ⟨rfl, hb2⟩
end Go.Proofs.YtffngbjnbigipaaGreatDoor

/- list.Put: what it hands back, and that nothing old turns. -/
namespace Go.Proofs.YtffngbjnbigipaaGreatDoor
open Go.RowKit Go.Lib
set_option linter.unusedSimpArgs false
set_option linter.unusedVariables false
set_option linter.unnecessarySimpa false
set_option maxRecDepth 100000

theorem builder_keeps {B b : Nat} {bs : List Value} {w W : World} (h : Lib.IsBuilderF 82 5 B b bs w) (hb : Below w.heap.size w W) : Lib.IsBuilderF 82 5 B b bs W := by
  have key : ∀ k o, w.heap[k]? = some o → W.heap[k]? = some o := fun k o hk => by
    have hlt := (Array.getElem?_eq_some_iff.1 hk).1
    rw [hb.block k hlt]; exact hk
  have one : ∀ p, Lib.BuilderAtF 82 5 B b p bs w → Lib.BuilderAtF 82 5 B b p bs W := fun p ⟨hB, v, hbk, hown, hne⟩ => by
    refine ⟨hB, v, key _ _ hbk, ⟨hown.1, ?_⟩, hne⟩
    rcases hown.2 with h0 | ⟨g, cap, cur, fz, hv, hbg, hg, r⟩
    · exact .inl h0
    · exact .inr ⟨g, cap, cur, fz, hv, hbg, key _ _ hg, r⟩
  exact h.elim (fun h => .inl (one _ h)) (fun h => .inr (one _ h))
theorem builder_lt {B b : Nat} {bs : List Value} {w : World} (h : Lib.IsBuilderF 82 5 B b bs w) : b < w.heap.size := by
  rcases h with ⟨_, v, hb, _⟩ | ⟨_, v, hb, _⟩ <;> exact (Array.getElem?_eq_some_iff.1 hb).1
/-- a spot's own block. -/
def SpBlk (W : World) (C : Nat) (i j : Int) (X Y : ByteArray) : Prop := W.heap[C]? = some (.cells #[.int .i64 i, .int .i64 j, .string X, .string Y] 32)
theorem SpBlk.made (w : World) (i j : Int) (X Y : ByteArray) : SpBlk (w.alloc (.cells #[.int .i64 i, .int .i64 j, .string X, .string Y] 32)) w.heap.size i j X Y := heap_alloc_new w _
theorem SpBlk.cells {W : World} {C : Nat} {i j : Int} {X Y : ByteArray} (h : SpBlk W C i j X Y) :
    W.cell? ⟨C, 0, none⟩ = some (.int .i64 i) ∧ W.cell? ⟨C, 1, none⟩ = some (.int .i64 j) ∧ W.cell? ⟨C, 2, none⟩ = some (.string X) ∧ W.cell? ⟨C, 3, none⟩ = some (.string Y) := by
  have h' : W.heap[C]? = some (.cells #[.int .i64 i, .int .i64 j, .string X, .string Y] 32) := h
  refine ⟨?_, ?_, ?_, ?_⟩ <;> (rw [Lib.cell_of_heap h']; rfl)
theorem SpBlk.kept {W W' : World} {C b : Nat} {i j : Int} {X Y : ByteArray} (h : SpBlk W C i j X Y) (hk : Lib.OthersKept 5 (some b) W W') (hne : C ≠ b) : SpBlk W' C i j X Y :=
  hk C _ h (fun e => hne (Option.some.inj e)) (fun c fz e => by cases e)
theorem SpBlk.below {W W' : World} {C : Nat} {i j : Int} {X Y : ByteArray} (h : SpBlk W C i j X Y) (hb : Below W.heap.size W W') : SpBlk W' C i j X Y := by
  have hlt : C < W.heap.size := (Array.getElem?_eq_some_iff.1 h).1
  unfold SpBlk
  rw [hb.block C hlt]
  exact h
theorem SpBlk.lt {W : World} {C : Nat} {i j : Int} {X Y : ByteArray} (h : SpBlk W C i j X Y) : C < W.heap.size := (Array.getElem?_eq_some_iff.1 h).1
/-- the spots gone through: what the builder holds. -/
def WRel (s : ByteArray) (A : List Sp) (l : List Ad) (w : World) (B : Nat) (g : Nat) (v10 v43 : Value) (W : World) : Prop :=
  ∃ (k n : Nat) (L : List UInt8), v10 = .int .i64 (n : Int) ∧ v43 = .int .i64 (k : Int) ∧ putUp s.data.toList A l k = (L, n) ∧ k ≤ A.length ∧ g = A.length - k ∧ Below B w W ∧ B ≤ W.heap.size ∧ Lib.IsBuilderF 82 5 B B (Lib.byteCells L) W
theorem cells_snoc (L : List UInt8) (s : ByteArray) : Lib.byteCells L ++ Lib.strCells s = Lib.byteCells (L ++ s.data.toList) := by rw [Lib.strCells_eq, Lib.byteCells_append]

set_option maxHeartbeats 16000000 in
theorem Put_any (s : ByteArray) (hs : s.size ≤ 900000) (l : List Ad) (v : Value) (w : World) (hrow : ARow w v l) (hl : l.length ≤ 1000) (hA : ∀ a ∈ l, a.1.length ≤ 1000 ∧ a.2.length ≤ 1000) (hE : Env w) :
    Calls Tryz.prog 24 #[.string s, v] w fun e w' => e = .returned (.tuple #[.string ⟨(putL s.data.toList l).1.toArray⟩, .int .i64 ((putL s.data.toList l).2 : Int)]) ∧ Below w.heap.size w w' := by
  have HB := Lib.hid (Find_row s (by omega) w hE)
  have hlen := find_len s.data.toList
  have hgood := findL_good s.data.toList
  obtain ⟨F, hF⟩ : ∃ F, findL s.data.toList = F := ⟨_, rfl⟩
  rw [hF] at HB hlen hgood
  obtain ⟨A, ea⟩ := F
  have hp := putL_of (l := l) hF
  obtain ⟨R, hR⟩ : ∃ R, R = putL s.data.toList l := ⟨_, rfl⟩
  rw [← hR] at hp ⊢
  have HP := Lib.hid hp
  have HG := Lib.hid hgood
  have HROW := Lib.hid hrow
  have HE := Lib.hid hE
  clear hp hgood hF hR hE
  obtain ⟨r1, r2⟩ := R
  simp only at HB HG hlen ⊢
  have HCO := Lib.hid (fun W (hb : Below w.heap.size w W) => Contains_addr l v W (hrow.below hb) (by omega) (fun a ha => by have := hA a ha; omega) (HE.out.below hb))
  obtain ⟨M, hM⟩ : ∃ M, M = l.any fun a => !mayL a := ⟨_, rfl⟩
  rw [← hM] at HP HCO
  clear hM
  obtain ⟨p, cap, rfl, -⟩ := hrow
  go_enter Tryz.func24, Tryz.ntmps24
  go_wp2_with fail
  refine HB.out.mono ?_
  rintro e w1 ⟨vb, rfl, hrb, hb1⟩
  have HS1 := Lib.hid hrb
  have HB1 := Lib.hid hb1
  obtain ⟨pb, capb, rfl, -⟩ := hrb
  clear hb1
  go_wp2_with fail
  refine (HCO.out _ HB1.out).mono ?_
  rintro e w3 ⟨rfl, hb3⟩
  have HBR := Lib.hid (HB1.out.trans (hb3.mono HB1.out.size))
  have HS := Lib.hid (HS1.out.below hb3)
  clear hb3 HS1 HCO HB HB1
  by_cases h5 : ea = 5
  · subst h5
    have hP := HP.out
    rw [if_pos rfl] at hP
    injection hP with q1 q2
    subst q1; subst q2
    go_wp2
    go_ret2
    exact ⟨rfl, HBR.out⟩
  · have he5 : ((ea : Int) == 5) = false := by rw [beq_eq_false_iff_ne]; omega
    have hP := HP.out
    rw [if_neg h5] at hP
    have HP := Lib.hid hP
    clear h5 hP
    cases M with
    | true =>
      have hP := HP.out
      simp only [if_true] at hP
      injection hP with q1 q2
      subst q1; subst q2
      go_wp2
      go_ret2
      exact ⟨rfl, HBR.out⟩
    | false =>
      have hP := HP.out
      simp only [Bool.false_eq_true, if_false] at hP
      have HP := Lib.hid hP
      clear hP
      by_cases h0 : ea = 0
      · subst h0
        have hP := HP.out
        rw [if_neg (by simp)] at hP
        have HP := Lib.hid hP
        clear hP
        by_cases hn : l.length = A.length
        · have hnn : ((l.length : Int) != (A.length : Int)) = false := by rw [bne_eq_false_iff_eq]; omega
          have hP := HP.out
          rw [if_neg (by simp [hn])] at hP
          have HP := Lib.hid hP
          have HN := Lib.hid hn
          clear hP hn
          have hbW := HBR.out
          have hst0 : Lib.IsBuilderF 82 5 w3.heap.size w3.heap.size (Lib.byteCells []) (w3.alloc (.cells #[.pointer none, .slice none 0 0] 82)) :=
            .inl ⟨Nat.le_refl _, .slice none 0 0, heap_alloc_new w3 _, ⟨rfl, .inl ⟨rfl, rfl⟩⟩, by simp [Value.ownBlock]⟩
          have HST := Lib.hid hst0
          clear hst0 hbW
          go_wp2_with fail
          go_loopg [10, 43] A.length (fun g v10 v43 W => WRel s A l w3 w3.heap.size g v10 v43 W)
          case atStart => exact ⟨0, 0, [], rfl, rfl, rfl, Nat.zero_le _, rfl, alloc_below _ _, by rw [World.size_alloc]; omega, HST.out⟩
          case round =>
            obtain ⟨k, n, L, rfl, rfl, hup, hk, hg, hb, hsz, hbu⟩ := hrel
            have HUP := Lib.hid hup
            have HG2 := Lib.hid hg
            have HB2 := Lib.hid hb
            have HBU := Lib.hid hbu
            have HSZ := Lib.hid hsz
            have hZ0 : L.length ≤ 120000000 := by
              have h1 := putUp_len (s := s.data.toList) (sp := A) (l := l) (T := 3003) (fun a ha => by have := text_len_le a; have := hA a ha; omega) k
              rw [hup] at h1
              simp only [size_list] at h1
              have h2 : k * (2 * s.size + 3003) ≤ 64 * (2 * 900000 + 3003) := Nat.mul_le_mul (by omega) (by omega)
              omega
            have hat := putUp_at HG.out HN.out k hk
            rw [hup, size_list] at hat
            simp only at hat
            have HAT := Lib.hid hat.1
            clear hg hb hup hbu hsz
            have hbr := HBR.out.trans (HB2.out.mono HBR.out.size)
            have HBW := Lib.hid hbr
            by_cases hlt : k < A.length
            · have hk0 : (0 : Int) ≤ (k : Int) := by omega
              have hk1 : (k : Int) < (A.length : Int) := by omega
              have hk2 : (k : Int) < (l.length : Int) := by have := HN.out; omega
              have hwk : IntKind.i64.wrap ((k : Int) + 1) = (k : Int) + 1 := by rw [IntKind.wrap_i64]; omega
              obtain ⟨p', cap', he, h⟩ := HROW.out.below HBR.out
              obtain rfl : cap = cap' := by injection he
              obtain rfl : p = p' := by injection he
              have hlk : k < l.length := by have := HN.out; omega
              obtain ⟨bb, hpb, hc⟩ := arow_at h hlk
              subst hpb
              clear he
              obtain ⟨pb', capb', he, h'⟩ := HS.out.below HB2.out
              obtain rfl : capb = capb' := by injection he
              obtain rfl : pb = pb' := by injection he
              obtain ⟨ba, hpb, hc'⟩ := srow_at h' hlt
              subst hpb
              clear he
              have had := hc k _ (List.getElem?_eq_getElem hlk)
              obtain ⟨c0, c1, c2, c3⟩ := hc' k _ (List.getElem?_eq_getElem hlt)
              have hmem := hA _ (List.getElem_mem hlk)
              have hst := putUp_step (s := s.data.toList) (List.getElem?_eq_getElem hlt) (List.getElem?_eq_getElem hlk)
              have hsg := HG.out.each A[k] (List.getElem_mem hlt)
              have h1 := hat.2 k _ (Nat.le_refl _) (List.getElem?_eq_getElem hlt)
              have h2 := hsg.lt
              have h3 := hsg.le
              have h45 : A[k].2.2.1.length ≤ 1000000 ∧ A[k].2.2.2.length ≤ 1000000 := by
                rw [hsg.rd]
                have q1 := parse_len (slc s.data.toList A[k].1 A[k].2.1)
                have q2 := slc_len s.data.toList A[k].1 A[k].2.1
                rw [size_list] at q2
                simp only
                omega
              rw [HUP.out] at hst
              have HHAD := Lib.hid had
              clear h h' hc hc' hsg hat had
              generalize A[k] = x at *
              generalize l[k] = a at *
              obtain ⟨f, t, lo, dm⟩ := x
              obtain ⟨xl, xd⟩ := a
              simp only [size_list] at h1 h2 h3 h45 hst c0 c1 c2 c3 HHAD hmem
              have HST := Lib.hid hst
              have i1 : (n : Int) ≤ (f : Int) := by omega
              have i2 : (f : Int) ≤ (t : Int) := by omega
              have i3 : (t : Int) ≤ (s.size : Int) := by omega
              have i4 : (f : Int) ≤ (s.size : Int) := by omega
              have i5 : (0 : Int) ≤ (n : Int) := by omega
              have i6 : (0 : Int) ≤ (f : Int) := by omega
              have l1 : Lib.byteCells L ++ Lib.strCells (s.extract n f) = Lib.byteCells (L ++ slc s.data.toList n f) := by rw [cells_snoc, ext_list s n f (by omega)]
              have l2 : Lib.byteCells (L ++ slc s.data.toList n f) ++ Lib.strCells (s.extract f t) = Lib.byteCells (L ++ slc s.data.toList n f ++ slc s.data.toList f t) := by rw [cells_snoc, ext_list s f t (by omega)]
              have l3 : Lib.byteCells (L ++ slc s.data.toList n f) ++ Lib.strCells ⟨(textL (xl, xd)).toArray⟩ = Lib.byteCells (L ++ slc s.data.toList n f ++ textL (xl, xd)) := by rw [cells_snoc]
              have L1 := Lib.hid l1
              have L2 := Lib.hid l2
              have L3 := Lib.hid l3
              have s1 : (L ++ slc s.data.toList n f).length ≤ 121000000 := by have := slc_len s.data.toList n f; rw [size_list] at this; rw [List.length_append]; omega
              have HC := Lib.hid (fun W => SameA_any ⟨lo.toArray⟩ ⟨dm.toArray⟩ ⟨xl.toArray⟩ ⟨xd.toArray⟩ (by show lo.length ≤ _; omega) (by show dm.length ≤ _; omega) (by show xl.length ≤ _; omega) (by show xd.length ≤ _; omega) W)
              have HORD := Lib.hid (show ordS ⟨lo.toArray⟩ ⟨dm.toArray⟩ ⟨xl.toArray⟩ ⟨xd.toArray⟩ = ordL (normL (lo, dm)) (normL (xl, xd)) from rfl)
              generalize ordS ⟨lo.toArray⟩ ⟨dm.toArray⟩ ⟨xl.toArray⟩ ⟨xd.toArray⟩ = r at HC HORD
              obtain ⟨bs, hbs⟩ : ∃ bs, bs = decide (r = 0) := ⟨_, rfl⟩
              rw [← hbs] at HC
              have HBS := Lib.hid hbs
              clear hbs
              have HT := Lib.hid (fun W (hE : Env W) => Text_any (xl, xd) (by show xl.length ≤ _; omega) (by show xd.length ≤ _; omega) W hE)
              simp only [addrV] at HT
              have htl : (textL (xl, xd)).length ≤ 3003 := by have := text_len_le (xl, xd); simp only at this; omega
              have HTL := Lib.hid htl
              clear hst l1 l2 l3 hmem h1 h2 h3 htl
              generalize hlo : (⟨lo.toArray⟩ : ByteArray) = Xl at c2 HC
              generalize hdm : (⟨dm.toArray⟩ : ByteArray) = Xd at c3 HC
              have hC := SpBlk.made wr (f : Int) (t : Int) Xl Xd
              have hbN := alloc_below wr (.cells #[.int .i64 (f : Int), .int .i64 (t : Int), .string Xl, .string Xd] 32)
              have HBU2 := Lib.hid (HBU.out.alloc (.cells #[.int .i64 (f : Int), .int .i64 (t : Int), .string Xl, .string Xd] 32))
              have HCb := Lib.hid hC
              have HBN := Lib.hid hbN
              have hcell := hC.cells
              have hsz2 : (wr.alloc (.cells #[.int .i64 (f : Int), .int .i64 (t : Int), .string Xl, .string Xd] 32)).heap.size = wr.heap.size + 1 := World.size_alloc _ _
              have HSZ2 := Lib.hid hsz2
              obtain ⟨y0, y1, y2, y3⟩ := hcell
              have i7 : w3.heap.size ≤ (wr.alloc (.cells #[.int .i64 (f : Int), .int .i64 (t : Int), .string Xl, .string Xd] 32)).heap.size := by rw [hsz2]; exact Nat.le_succ_of_le HSZ.out
              have hCne : wr.heap.size ≠ w3.heap.size := by
                have h := builder_lt HBU.out
                omega
              have HCN := Lib.hid hCne
              have hlen1 : (Lib.byteCells L).length + (s.extract n f).size ≤ 140737488355328 := by rw [Lib.byteCells_length, ByteArray.size_extract]; omega
              have HW1 := Lib.hid (Tryz.WriteString_k w3.heap.size w3.heap.size _ (s.extract n f) _ HBU2.out hlen1 i7)
              clear hC hbN hsz2 hlo hdm hCne hlen1
              go_wp2_with fail
              generalize hwx : wr.alloc (.cells #[.int .i64 (f : Int), .int .i64 (t : Int), .string Xl, .string Xd] 32) = wx at *
              have I7 := Lib.hid i7
              clear hwx i7
              refine HW1.out.mono ?_
              rintro e w4 ⟨rfl, hat4, hb4, hk4⟩
              have HAT4 := Lib.hid hat4
              have hw4 : Below w3.heap.size w3 w4 := (HB2.out.trans (HBN.out.mono HSZ.out)).trans hb4
              have HB4 := Lib.hid hw4
              have hC4 := HCb.out.kept hk4 HCN.out
              have HC4 := Lib.hid hC4
              have hB4 : Lib.IsBuilderF 82 5 w3.heap.size w3.heap.size (Lib.byteCells (L ++ slc s.data.toList n f)) w4 := by rw [← L1.out]; exact .inr hat4
              have HBD4 := Lib.hid hB4
              have hS4 := HHAD.out.below hw4
              obtain ⟨g0, g1⟩ := hS4
              obtain ⟨z0, z1, z2, z3⟩ := hC4.cells
              have HLT1 := Lib.hid hC4.lt
              have HLT2 := Lib.hid (World.block_lt_of_cell? _ _ g0)
              have HSZ4 := Lib.hid (Nat.le_of_lt (builder_lt hB4))
              have hS : w4.cell? ⟨wr.heap.size, 2, none⟩ = some (.string Xl) ∧ w4.cell? ⟨wr.heap.size, 3, none⟩ = some (.string Xd) ∧ w4.cell? ⟨bb, k * 2, none⟩ = some (.string ⟨xl.toArray⟩) ∧ w4.cell? ⟨bb, k * 2 + 1, none⟩ = some (.string ⟨xd.toArray⟩) := ⟨z2, z3, g0, g1⟩
              clear hat4 hb4 hk4 hw4 hC4 hB4 y0 y1 y2 y3 c0 c1 c2 c3
              go_wp2_with fail
              go_region_held3 (fun W => W.cell? ⟨wr.heap.size, 2, none⟩ = some (.string Xl) ∧ W.cell? ⟨wr.heap.size, 3, none⟩ = some (.string Xd) ∧ W.cell? ⟨bb, k * 2, none⟩ = some (.string ⟨xl.toArray⟩) ∧ W.cell? ⟨bb, k * 2 + 1, none⟩ = some (.string ⟨xd.toArray⟩))
                (first | exact hS7 | exact hS | go_keep)
                (first | ((with_reducible refine (HC.out _).mono ?_); rintro e w7 ⟨rfl, hb7⟩; have hb7' := (drew_below w4).trans hb7; have hS7 : w7.cell? ⟨wr.heap.size, 2, none⟩ = some (.string Xl) ∧ w7.cell? ⟨wr.heap.size, 3, none⟩ = some (.string Xd) ∧ w7.cell? ⟨bb, k * 2, none⟩ = some (.string ⟨xl.toArray⟩) ∧ w7.cell? ⟨bb, k * 2 + 1, none⟩ = some (.string ⟨xd.toArray⟩) := ⟨(hb7'.cell (p := ⟨wr.heap.size, 2, none⟩) HLT1.out).trans hS.1, (hb7'.cell (p := ⟨wr.heap.size, 3, none⟩) HLT1.out).trans hS.2.1, (hb7'.cell (p := ⟨bb, k * 2, none⟩) HLT2.out).trans hS.2.2.1, (hb7'.cell (p := ⟨bb, k * 2 + 1, none⟩) HLT2.out).trans hS.2.2.2⟩))
              have HB7 := Lib.hid (HB4.out.trans (hb7'.mono HSZ4.out))
              have HBD7 := Lib.hid (builder_keeps HBD4.out hb7')
              have HC7 := Lib.hid (HC4.out.below hb7')
              have HSZ7 := Lib.hid (Nat.le_of_lt (builder_lt HBD7.out))
              clear hb7 hb7' hS hS7 z0 z1 z2 z3 g0 g1
              cases bs with
              | true =>
                have hr0 : r = 0 := by simpa using HBS.out.symm
                have HR0 := Lib.hid (show ordL (normL (lo, dm)) (normL (xl, xd)) = 0 by rw [← HORD.out]; exact hr0)
                have hlen2 : (Lib.byteCells (L ++ slc s.data.toList n f)).length + (s.extract f t).size ≤ 140737488355328 := by rw [Lib.byteCells_length, ByteArray.size_extract]; omega
                have HW2 := Lib.hid (Tryz.WriteString_k w3.heap.size w3.heap.size _ (s.extract f t) _ HBD7.out hlen2 HSZ7.out)
                obtain ⟨z0, z1, z2, z3⟩ := HC7.out.cells
                clear hr0 hlen2
                go_wp2_with fail
                refine HW2.out.mono ?_
                rintro e w8 ⟨rfl, hat8, hb8, -⟩
                have HAT8 := Lib.hid hat8
                have HB8 := Lib.hid (HB7.out.trans hb8)
                have hB8 : Lib.IsBuilderF 82 5 w3.heap.size w3.heap.size (Lib.byteCells (L ++ slc s.data.toList n f ++ slc s.data.toList f t)) w8 := by rw [← L2.out]; exact .inr hat8
                have HBD8 := Lib.hid hB8
                clear hat8 hb8 hB8 z0 z1 z2 z3
                go_wp2_with fail
                go_roundg (A.length - (k + 1))
                case rel =>
                  refine ⟨k + 1, t, _, rfl, by go_num, ?_, by omega, rfl, HB8.out, Nat.le_of_lt (builder_lt HBD8.out), HBD8.out⟩
                  rw [HST.out, if_pos HR0.out]
                case measure => have := HG2.out; omega
              | false =>
                have hr0 : ¬ r = 0 := by simpa using HBS.out.symm
                have HR0 := Lib.hid (show ¬ ordL (normL (lo, dm)) (normL (xl, xd)) = 0 by rw [← HORD.out]; exact hr0)
                have had7 := HHAD.out.below HB7.out
                obtain ⟨g0, g1⟩ := had7
                have hlen2 : (Lib.byteCells (L ++ slc s.data.toList n f)).length + (⟨(textL (xl, xd)).toArray⟩ : ByteArray).size ≤ 140737488355328 := by rw [Lib.byteCells_length]; have := HTL.out; show _ + (textL (xl, xd)).length ≤ _; omega
                have HW2 := Lib.hid (fun W h1 h2 => Tryz.WriteString_k w3.heap.size w3.heap.size _ ⟨(textL (xl, xd)).toArray⟩ W h1 hlen2 h2)
                have HE7 := Lib.hid (HE.out.below (HBR.out.trans (HB7.out.mono HBR.out.size)))
                rw [L3.out] at HW2
                generalize (⟨(textL (xl, xd)).toArray⟩ : ByteArray) = T at HT HW2 hlen2
                clear hr0 hlen2
                go_wp2_with fail
                refine (HT.out _ HE7.out).mono ?_
                rintro e w8 ⟨rfl, hb8⟩
                have HB8 := Lib.hid (HB7.out.trans (hb8.mono HSZ7.out))
                have HBD8 := Lib.hid (builder_keeps HBD7.out hb8)
                have HSZ8 := Lib.hid (Nat.le_of_lt (builder_lt HBD8.out))
                clear hb8 g0 g1
                go_wp2_with fail
                refine (HW2.out _ HBD8.out HSZ8.out).mono ?_
                rintro e w9 ⟨rfl, hat9, hb9, -⟩
                have HB9 := Lib.hid (HB8.out.trans hb9)
                have HAT9 := Lib.hid hat9
                clear hat9 hb9
                go_wp2_with fail
                go_roundg (A.length - (k + 1))
                case rel =>
                  refine ⟨k + 1, t, _, rfl, by go_num, ?_, by omega, rfl, HB9.out, Nat.le_of_lt (builder_lt (.inr HAT9.out)), .inr HAT9.out⟩
                  rw [HST.out, if_neg HR0.out]
                case measure => have := HG2.out; omega
            · have hge : ¬ (k : Int) < (A.length : Int) := by omega
              obtain rfl : k = A.length := by omega
              have hP := HP.out
              rw [HUP.out] at hP
              simp only at hP
              injection hP with q1 q2
              subst q2
              have i1 : (n : Int) ≤ (s.size : Int) := by have := HAT.out; omega
              have i0 : (0 : Int) ≤ (n : Int) := by omega
              obtain ⟨Z0, hZ⟩ : ∃ Z0 : ByteArray, Z0 = ⟨L.toArray⟩ := ⟨_, rfl⟩
              obtain ⟨Z, hZ2⟩ : ∃ Z : ByteArray, Z = ⟨r1.toArray⟩ := ⟨_, rfl⟩
              have hz : Z = Z0 ++ s.extract n s.size := by
                apply ByteArray.ext
                rw [hZ2, hZ, q1]
                apply Array.ext'
                have e2 : slc s.data.toList n s.size = s.data.toList.drop n := by unfold slc; rw [List.take_of_length_le (by simp)]
                rw [ByteArray.data_append, Array.toList_append, ext_list s n s.size (Nat.le_refl _), e2]
              have a1 := add_run hz (by rw [hZ, ByteArray.size_extract]; show L.length + _ ≤ _; omega)
              have hstr := Tryz.Builder_String_any_k w3.heap.size w3.heap.size L wr.drew HBU.out HSZ.out
              rw [← hZ] at hstr
              have HSTR := Lib.hid hstr
              have HZ := Lib.hid hZ2
              clear hstr hz hZ hZ2 q1
              go_wp2_with fail
              go_region_held3 (fun W => True) (exact trivial) (first | ((with_reducible refine HSTR.out.mono ?_); rintro e w5 ⟨rfl, -, hb5, -⟩))
              go_wp2
              go_ret2
              exact ⟨by rw [← HZ.out]; rfl, (HBW.out.trans ((drew_below wr).mono HBW.out.size)).trans (hb5.mono HBR.out.size)⟩
        · have hnn : ((l.length : Int) != (A.length : Int)) = true := by rw [bne_iff_ne]; omega
          have hP := HP.out
          rw [if_pos hn] at hP
          injection hP with q1 q2
          subst q1; subst q2
          clear hn
          go_wp2
          go_ret2
          exact ⟨rfl, HBR.out⟩
      · have he0 : ((ea : Int) == 0) = false := by rw [beq_eq_false_iff_ne]; omega
        have he1 : ((ea : Int) != 0) = true := by rw [bne_iff_ne]; omega
        have hP := HP.out
        rw [if_pos h0] at hP
        injection hP with q1 q2
        subst q1; subst q2
        clear h0
        go_wp2
        go_ret2
        exact ⟨rfl, HBR.out⟩
end Go.Proofs.YtffngbjnbigipaaGreatDoor

/- THE STAGE'S THEOREM, plain: behind Put a list has just the addresses put, and between them just the bytes that stood there. -/
namespace Go.Proofs.YtffngbjnbigipaaGreatDoor
open Go.RowKit Go.Lib
set_option linter.unusedSimpArgs false
set_option linter.unusedVariables false
set_option linter.unnecessarySimpa false
set_option maxRecDepth 100000

/-- where the spot ahead of a place in a row of spots ends; 0 ahead of the first. -/
def endOf (sp : List Sp) : Nat → Nat
  | 0 => 0
  | k + 1 => ((sp[k]?).map fun x => x.2.1).getD 0
theorem endOf_succ {sp : List Sp} {k : Nat} {x : Sp} (h : sp[k]? = some x) : endOf sp (k + 1) = x.2.1 := by
  simp [endOf, h]
def putY (s : List UInt8) (x : Sp) (a : Ad) : HT := if ordL (normL x.2.2) (normL a) = 0 then (slc s x.1 x.2.1, x.2.2) else (textL a, a)
def putZ (s : List UInt8) (sp : List Sp) (l : List Ad) : List (Sp × HT) := List.zipWith (fun x a => (x, putY s x a)) sp l
theorem putZ_fst (s : List UInt8) : ∀ (sp : List Sp) (l : List Ad), l.length = sp.length → (putZ s sp l).map Prod.fst = sp
  | [], _, _ => rfl
  | x :: sp, [], h => by simp at h
  | x :: sp, a :: l, h => by
    have := putZ_fst s sp l (by simpa using h)
    simp only [putZ, List.zipWith_cons_cons, List.map_cons] at this ⊢
    rw [this]
theorem putZ_get {s : List UInt8} {sp : List Sp} {l : List Ad} {k : Nat} {x : Sp} {a : Ad} (hx : sp[k]? = some x) (ha : l[k]? = some a) : (putZ s sp l)[k]? = some (x, putY s x a) := by
  unfold putZ
  rw [List.getElem?_zipWith, hx, ha]
theorem putZ_len (s : List UInt8) (sp : List Sp) (l : List Ad) (h : l.length = sp.length) : (putZ s sp l).length = sp.length := by
  unfold putZ
  rw [List.length_zipWith, h, Nat.min_self]
theorem putZ_drop {s : List UInt8} {sp : List Sp} {l : List Ad} {k : Nat} {x : Sp} {a : Ad} (hx : sp[k]? = some x) (ha : l[k]? = some a) : (putZ s sp l).drop k = (x, putY s x a) :: (putZ s sp l).drop (k + 1) := by
  obtain ⟨hk, he⟩ := List.getElem?_eq_some_iff.1 (putZ_get (s := s) hx ha)
  rw [List.drop_eq_getElem_cons hk, he]
theorem putUp_end (s : List UInt8) {sp : List Sp} {l : List Ad} (hl : l.length = sp.length) : ∀ (k : Nat), k ≤ sp.length → (putUp s sp l k).2 = endOf sp k ∧ (putUp s sp l k).1 ++ fillR s (endOf sp k) ((putZ s sp l).drop k) = fillR s 0 (putZ s sp l)
  | 0, _ => ⟨rfl, by simp [putUp, endOf]⟩
  | k + 1, hk => by
    obtain ⟨h1, h2⟩ := putUp_end s hl k (by omega)
    have hx : sp[k]? = some sp[k] := List.getElem?_eq_getElem (by omega)
    have ha : l[k]? = some l[k] := List.getElem?_eq_getElem (by omega)
    generalize sp[k] = x at hx
    generalize l[k] = a at ha
    rw [putUp_step hx ha, endOf_succ hx]
    refine ⟨rfl, ?_⟩
    rw [← h2, putZ_drop hx ha]
    simp only [fillR, h1, List.append_assoc]
    congr 2
    unfold putY
    split <;> rfl
theorem putL_fill {s : List UInt8} {sp : List Sp} {l : List Ad} (h : findL s = (sp, 0)) (hl : l.length = sp.length) (hm : ∀ a ∈ l, mayL a = true) : putL s l = (fillR s 0 (putZ s sp l), 0) := by
  unfold putL
  rw [h]
  have ha : (l.any fun a => !mayL a) = false := by
    rw [List.any_eq_false]
    intro a h
    rw [hm a h]
    simp
  simp only [ha]
  rw [if_neg (by omega), if_neg (by simp), if_neg (by simp), if_neg (by omega)]
  obtain ⟨h1, h2⟩ := putUp_end s hl sp.length (Nat.le_refl _)
  have hd : (putZ s sp l).drop sp.length = [] := List.drop_of_length_le (by rw [putZ_len s sp l hl]; exact Nat.le_refl _)
  rw [hd] at h2
  rw [h1, ← h2]
  rfl
theorem fill_same (s : List UInt8) : ∀ (z : List (Sp × HT)) (k : Nat), In k (z.map Prod.fst) s.length → (∀ y ∈ z, y.2.1 = slc s y.1.1 y.1.2.1) → fillR s k z = s.drop k
  | [], _, _, _ => rfl
  | (x, y) :: z, k, h, hy => by
    simp only [List.map_cons] at h
    have e : y.1 = slc s x.1 x.2.1 := hy (x, y) List.mem_cons_self
    simp only [fillR]
    rw [fill_same s z _ h.2.2 (fun y' hy' => hy y' (List.mem_cons_of_mem _ hy')), e, drop_cut s k x.1 h.1, drop_cut s x.1 x.2.1 (Nat.le_of_lt h.2.1)]
theorem spot_parse {s : List UInt8} {sp : List Sp} (h : findL s = (sp, 0)) : ∀ x ∈ sp, parseL (slc s x.1 x.2.1) = (x.2.2.1, x.2.2.2, 0) ∧ mayL x.2.2 = true := by
  intro x hx
  have hg := findL_good s
  rw [h] at hg
  have h0 := hg.short rfl x hx
  have hr := (hg.each x hx).rd
  have hm := parse_may _ h0
  rw [← hr] at hm
  refine ⟨?_, hm⟩
  rw [hr]
  simp only
  rw [← h0]
theorem stay_law {s : List UInt8} {sp : List Sp} (h : findL s = (sp, 0)) : putL s (sp.map fun x => x.2.2) = (s, 0) := by
  rw [putL_fill h (by simp) (fun a ha => by
    obtain ⟨x, hx, rfl⟩ := List.mem_map.1 ha
    exact (spot_parse h x hx).2)]
  rw [fill_same s _ 0 (by rw [putZ_fst s sp _ (by simp)]; exact (find_holes h).1)]
  · rfl
  · intro y hy
    obtain ⟨k, hk⟩ := List.getElem?_of_mem hy
    unfold putZ at hk
    rw [List.getElem?_zipWith, List.getElem?_map] at hk
    cases hx : sp[k]? with
    | none => rw [hx] at hk; cases hk
    | some x =>
      rw [hx] at hk
      simp only [Option.map_some, Option.some.injEq] at hk
      subst hk
      simp only [putY]
      rw [if_pos ((ord_zero _ _).2 rfl)]
/-- one spot of the old text, its like in the new one. -/
structure MovK (s t : List UInt8) (bef aft : Nat) (x y : Sp) (a : Ad) : Prop where
  x0 : bef ≤ x.1
  x1 : x.1 < x.2.1
  x2 : x.2.1 ≤ s.length
  y0 : aft ≤ y.1
  y1 : y.1 ≤ y.2.1
  y2 : y.2.1 ≤ t.length
  between : slc s bef x.1 = slc t aft y.1
  addr : ordL (normL y.2.2) (normL a) = 0
  parse : parseL (slc s x.1 x.2.1) = (x.2.2.1, x.2.2.2, 0)
  same : ordL (normL x.2.2) (normL a) = 0 → slc s x.1 x.2.1 = slc t y.1 y.2.1
theorem nsp_len (l l' : List UInt8) (q : List (Sp × HT)) : ∀ (z : List (Sp × HT)), (nsp l l' z q).length = z.length
  | [] => rfl
  | (x, y) :: z => by simp only [nsp, List.length_cons, nsp_len l l' q z]
theorem nsp_get (l l' : List UInt8) : ∀ (z : List (Sp × HT)) (k : Nat) (x : Sp) (y : HT), z[k]? = some (x, y) → (nsp l l' z [])[k]? = some (l'.length - (y.1 ++ fillR l x.2.1 (z.drop (k + 1))).length, plc l l' x.2.1 (z.drop (k + 1)), y.2)
  | [], k, x, y, h => by simp at h
  | (x0, y0) :: z, 0, x, y, h => by
    simp only [List.getElem?_cons_zero, Option.some.injEq, Prod.mk.injEq] at h
    obtain ⟨rfl, rfl⟩ := h
    simp [nsp]
  | (x0, y0) :: z, k + 1, x, y, h => by
    simp only [List.getElem?_cons_succ] at h
    have := nsp_get l l' z k x y h
    simpa [nsp] using this
theorem in_drop {l : List UInt8} {z : List (Sp × HT)} {sp : List Sp} (hz : z.map Prod.fst = sp) (h : In 0 sp l.length) : ∀ k, k ≤ sp.length → In (endOf sp k) ((z.drop k).map Prod.fst) l.length
  | 0, _ => by rw [List.drop_zero, hz]; exact h
  | k + 1, hk => by
    have ih := in_drop hz h k (by omega)
    have hx : sp[k]? = some sp[k] := List.getElem?_eq_getElem (by omega)
    rw [endOf_succ hx]
    rw [List.map_drop, hz, List.drop_eq_getElem_cons (show k < sp.length by omega)] at ih
    rw [List.map_drop, hz]
    exact ih.2.2
/-- THE LAW. -/
theorem moves_law {s : List UInt8} {sp : List Sp} (h : findL s = (sp, 0)) (pu : List Ad) (hl : pu.length = sp.length) (hm : ∀ a ∈ pu, mayL a = true) :
    ∃ t other, putL s pu = (t, 0) ∧ findL t = (other, 0) ∧ other.length = sp.length ∧
      (∀ k x y a, sp[k]? = some x → other[k]? = some y → pu[k]? = some a → MovK s t (endOf sp k) (endOf other k) x y a) ∧
      s.drop (endOf sp sp.length) = t.drop (endOf other sp.length) ∧ endOf sp sp.length ≤ s.length ∧ endOf other sp.length ≤ t.length := by
  obtain ⟨hin, hho⟩ := find_holes h
  have hfst := putZ_fst s sp pu hl
  have hys : ∀ y ∈ putZ s sp pu, Hole y.2 := by
    intro y hy
    obtain ⟨k, hk⟩ := List.getElem?_of_mem hy
    have hkl := (List.getElem?_eq_some_iff.1 hk).1
    rw [putZ_len s sp pu hl] at hkl
    rw [putZ_get (List.getElem?_eq_getElem hkl) (List.getElem?_eq_getElem (show k < pu.length by omega))] at hk
    injection hk with hk
    subst hk
    unfold putY
    split
    · exact hho _ (List.getElem_mem hkl)
    · exact hole_may (hm _ (List.getElem_mem _))
  have hf := find_fill h (putZ s sp pu) hfst hys
  generalize hz : putZ s sp pu = z at hf hys hfst
  generalize ht : fillR s 0 z = t at hf
  have hpl : putL s pu = (t, 0) := by rw [putL_fill h hl hm, hz, ht]
  generalize ho : nsp s t z [] = other at hf
  have hol : other.length = sp.length := by rw [← ho, nsp_len, ← hz, putZ_len s sp pu hl]
  have hzd : ∀ k x a, sp[k]? = some x → pu[k]? = some a → z.drop k = (x, putY s x a) :: z.drop (k + 1) := fun k x a hx ha => by rw [← hz]; exact putZ_drop hx ha
  have hoy : ∀ k x a, sp[k]? = some x → pu[k]? = some a → other[k]? = some (t.length - ((putY s x a).1 ++ fillR s x.2.1 (z.drop (k + 1))).length, plc s t x.2.1 (z.drop (k + 1)), (putY s x a).2) := fun k x a hx ha => by
    rw [← ho]
    exact nsp_get s t z k x _ (by rw [← hz]; exact putZ_get hx ha)
  have par : ∀ k, k ≤ sp.length → Par s t (endOf sp k) (z.drop k) ∧ endOf other k = plc s t (endOf sp k) (z.drop k) := by
    intro k
    induction k with
    | zero =>
      intro _
      refine ⟨⟨[], by rw [List.drop_zero]; exact ht.symm⟩, ?_⟩
      rw [List.drop_zero]
      show 0 = t.length - (fillR s 0 z).length
      rw [ht]
      omega
    | succ k ih =>
      intro hk
      obtain ⟨p1, -⟩ := ih (by omega)
      have hx : sp[k]? = some sp[k] := List.getElem?_eq_getElem (by omega)
      have ha : pu[k]? = some pu[k] := List.getElem?_eq_getElem (by omega)
      generalize sp[k] = x at hx
      generalize pu[k] = a at ha
      have hi := in_drop hfst hin k (by omega)
      rw [endOf_succ hx, endOf_succ (hoy k x a hx ha)]
      rw [hzd k x a hx ha] at p1 hi
      simp only [List.map_cons] at hi
      have p2 := (par_go x.1 p1 hi.1 (by simp only [List.map_cons]; exact ⟨Nat.le_refl _, hi.2⟩)).1
      exact ⟨(par_hole p2).2.1, rfl⟩
  refine ⟨t, other, hpl, hf, hol, ?_, ?_, ?_, ?_⟩
  · intro k x y a hx hy ha
    have hk := (List.getElem?_eq_some_iff.1 hx).1
    obtain ⟨p1, p0⟩ := par k (by omega)
    have hi := in_drop hfst hin k (by omega)
    rw [hzd k x a hx ha] at p1 hi p0
    simp only [List.map_cons] at hi
    rw [hoy k x a hx ha] at hy
    injection hy with hy
    obtain ⟨p2, e2, G⟩ := par_go x.1 p1 hi.1 (by simp only [List.map_cons]; exact ⟨Nat.le_refl _, hi.2⟩)
    obtain ⟨d1, p4, e4, e5⟩ := par_hole p2
    rw [e5] at hy
    have hg := G.slc
    have hle := G.le
    have hpd := (par_drop p4).2
    have hxm := List.mem_of_getElem? hx
    subst hy
    refine ⟨hi.1, hi.2.1, hi.2.2.le, ?_, ?_, hpd, ?_, ?_, (spot_parse h x hxm).1, ?_⟩
    · show endOf other k ≤ plc s t x.1 _
      omega
    · show plc s t x.1 _ ≤ plc s t x.2.1 _
      omega
    · show slc s (endOf sp k) x.1 = slc t (endOf other k) (plc s t x.1 _)
      rw [p0, hg]
    · show ordL (normL (putY s x a).2) (normL a) = 0
      unfold putY
      split
      · assumption
      · exact (ord_zero _ _).2 rfl
    · intro h0
      show slc s x.1 x.2.1 = slc t (plc s t x.1 _) (plc s t x.2.1 _)
      rw [e4, slc_drop d1]
      unfold putY
      rw [if_pos h0]
  · obtain ⟨p1, p0⟩ := par sp.length (Nat.le_refl _)
    have hzl : z.length = sp.length := by rw [← hz, putZ_len s sp pu hl]
    rw [List.drop_of_length_le (by omega)] at p1 p0
    rw [p0, (par_drop p1).1]
    rfl
  · exact (in_drop hfst hin sp.length (Nat.le_refl _)).le
  · obtain ⟨p1, p0⟩ := par sp.length (Nat.le_refl _)
    rw [p0]
    exact (par_drop p1).2
end Go.Proofs.YtffngbjnbigipaaGreatDoor
