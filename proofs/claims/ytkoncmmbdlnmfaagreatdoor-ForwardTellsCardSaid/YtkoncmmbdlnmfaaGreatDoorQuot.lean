/- text.Quoted and the document's Quoted: the word, how many bytes, the error, for every text of at most 10^12 bytes. -/
import Derived.Test.YtkoncmmbdlnmfaaGreatDoorTSplit
import Derived.Shelf.Bytes.SlEqualAll
namespace Go.Proofs.YtkoncmmbdlnmfaaGreatDoor
open Go.RowKit Go.Lib
set_option linter.unusedSimpArgs false
set_option linter.unusedVariables false
set_option linter.unnecessarySimpa false
set_option maxRecDepth 100000

theorem quot_step (c : UInt8) (r out : List UInt8) (k : Nat) : quotGo (c :: r) out k = if c.toNat = 34 then (out, k + 1, 0) else if c.toNat = 92 then (match r with | [] => ([], 0, 4) | d :: r2 => if plainB d.toNat then quotGo r2 (out ++ [d]) (k + 2) else ([], 0, 5))
      else if plainB c.toNat then quotGo r (out ++ [c]) (k + 1) else ([], 0, 5) := by
  cases r with
  | nil =>
    rw [quotGo]
    simp [quotGo]
  | cons d r => rw [quotGo]
theorem quot_end (r out : List UInt8) (k : Nat) (c : UInt8) (h : c.toNat = 34) : quotGo (c :: r) out k = (out, k + 1, 0) := by rw [quot_step, if_pos h]
theorem quot_back_end (out : List UInt8) (k : Nat) (c : UInt8) (h : c.toNat = 92) : quotGo [c] out k = ([], 0, 4) := by rw [quot_step, if_neg (by omega), if_pos h]
theorem quot_back (r out : List UInt8) (k : Nat) (c d : UInt8) (h : c.toNat = 92) (hp : plainB d.toNat = true) : quotGo (c :: d :: r) out k = quotGo r (out ++ [d]) (k + 2) := by rw [quot_step, if_neg (by omega), if_pos h]; simp [hp]
theorem quot_back_bad (r out : List UInt8) (k : Nat) (c d : UInt8) (h : c.toNat = 92) (hp : plainB d.toNat = false) : quotGo (c :: d :: r) out k = ([], 0, 5) := by rw [quot_step, if_neg (by omega), if_pos h]; simp [hp]
theorem quot_plain (r out : List UInt8) (k : Nat) (c : UInt8) (h1 : c.toNat ≠ 34) (h2 : c.toNat ≠ 92) (hp : plainB c.toNat = true) : quotGo (c :: r) out k = quotGo r (out ++ [c]) (k + 1) := by rw [quot_step, if_neg h1, if_neg h2, if_pos hp]
theorem quot_bad (r out : List UInt8) (k : Nat) (c : UInt8) (h1 : c.toNat ≠ 34) (h2 : c.toNat ≠ 92) (hp : plainB c.toNat = false) : quotGo (c :: r) out k = ([], 0, 5) := by rw [quot_step, if_neg h1, if_neg h2, if_neg (by simp [hp])]

theorem pair_end (s : ByteArray) (hs : s.size ≤ 1000000000000) (k : Nat) (hk : ¬ k + 1 < s.size) (hk2 : k < s.size) (w : World) :
    Calls Tryz.prog 215 #[.string s, .int .i64 (k : Int)] w fun e w' => e = .returned (.tuple #[.int .u8 0, .int .i64 4]) ∧ w' = w := by
  have hwr : IntKind.i64.wrap ((k : Int) + 1) = (k : Int) + 1 := by rw [IntKind.wrap_i64]; omega
  have h1 : (s.size : Int) ≤ (k : Int) + 1 := by omega
  go_enter Tryz.func215, Tryz.ntmps215
  go_wp2
  go_ret2
  exact ⟨rfl, rfl⟩
theorem pair_ok (s : ByteArray) (hs : s.size ≤ 1000000000000) (k : Nat) (hk : k + 1 < s.size) (hp : plainB s[k + 1].toNat = true) (w : World) :
    Calls Tryz.prog 215 #[.string s, .int .i64 (k : Int)] w fun e w' => e = .returned (.tuple #[.int .u8 (s[k + 1].toNat : Int), .int .i64 0]) ∧ w' = w := by
  have hwr : IntKind.i64.wrap ((k : Int) + 1) = ((k + 1 : Nat) : Int) := by rw [IntKind.wrap_i64]; omega
  have h1 : ((k + 1 : Nat) : Int) < (s.size : Int) := by omega
  have h2 : (0 : Int) ≤ ((k + 1 : Nat) : Int) := by omega
  have hP := plain_text s[k + 1].toNat w
  rw [hp] at hP
  generalize hm : k + 1 = m at *
  have HM := Lib.hid hm
  clear hm hp
  go_enter Tryz.func215, Tryz.ntmps215
  go_wp2_with fail
  refine hP.mono ?_
  rintro e w2 ⟨rfl, rfl⟩
  go_wp2
  go_ret2
  exact ⟨rfl, rfl⟩
theorem pair_bad (s : ByteArray) (hs : s.size ≤ 1000000000000) (k : Nat) (hk : k + 1 < s.size) (hp : plainB s[k + 1].toNat = false) (w : World) :
    Calls Tryz.prog 215 #[.string s, .int .i64 (k : Int)] w fun e w' => e = .returned (.tuple #[.int .u8 0, .int .i64 5]) ∧ w' = w := by
  have hwr : IntKind.i64.wrap ((k : Int) + 1) = ((k + 1 : Nat) : Int) := by rw [IntKind.wrap_i64]; omega
  have h1 : ((k + 1 : Nat) : Int) < (s.size : Int) := by omega
  have h2 : (0 : Int) ≤ ((k + 1 : Nat) : Int) := by omega
  have hP := plain_text s[k + 1].toNat w
  rw [hp] at hP
  generalize hm : k + 1 = m at *
  have HM := Lib.hid hm
  clear hm hp
  go_enter Tryz.func215, Tryz.ntmps215
  go_wp2_with fail
  refine hP.mono ?_
  rintro e w2 ⟨rfl, rfl⟩
  go_wp2
  go_ret2
  exact ⟨rfl, rfl⟩

theorem text_isE {s : ByteArray} (h : s ≠ ⟨#[]⟩) : s.toList.isEmpty = false := by
  cases h2 : s.toList.isEmpty with
  | false => rfl
  | true => exact absurd (List.isEmpty_iff.1 h2) (text_some h)
theorem info5 : (Tryz.prog.info? 5).map (fun i => (i.zero, i.size, i.bytes)) = some (some (.int .u8 0), 1, 1) := by kernel_rfl
/-- one byte appended to a row of the call's own. -/
theorem app_byte {ops : Array Oper} {rest : List Oper} {o : Oper} {a : Act} {Q : Exit → Act → World → Prop} {w : World} (hgd : o.guard = none) (s x : Operand)
    (ho : o.op = .call { callee := .builtin .append, args := #[s, x], argTypes := #[50, 50] })
    (B : Nat) (v : Value) (n : Nat) (xs : List Value) (hs : a.eval s = v) (hown : w.ownsRow B 5 1 v n xs) (ad : Addr) (cp : Nat) (u : Value) (hx : a.eval x = .slice (some ad) 1 cp)
    (hnew : w.cell? ad = some u) (h1 : u.oneCell' = true) (hlen : n + 1 ≤ 140737488355328) (hbase : B ≤ w.heap.size)
    (h : ∀ g cap w', w'.ownsRow B 5 1 (.slice (some ⟨g, 0, none⟩) (n + 1) cap) (n + 1) (xs ++ [u]) → w.grownBy w' v.ownBlock → wpList Tryz.prog ops Q rest (a.put o.dst (.slice (some ⟨g, 0, none⟩) (n + 1) cap)) w') : wpList Tryz.prog ops Q (o :: rest) a w := by
  obtain ⟨i0, hi, hz0, hz1, hz2⟩ := info_parts info5
  refine wpList_append_own w hgd s x 50 ho B 5 i0 (.int .u8 0) 1 1 Tryz.underlying50 hi hz0 hz1 hz2 rfl (by decide) v n xs hs hown ad 1 cp [u] hx rfl ?_ (by simpa using h1) (by unfold maxLen; omega) (by omega) hbase
    ?_
  rotate_left
  · intro v' w' h2 h3 _
    have h2' := h2
    obtain ⟨_, ⟨_, h0⟩ | ⟨g, cap, cur, rfl, _⟩⟩ := h2'
    · omega
    · exact h g cap w' h2 h3
  intro j u' hj
  cases j with
  | zero => simp at hj; subst hj; simpa [Addr.add] using hnew
  | succ j => simp at hj
theorem own_form {w : World} {B t n : Nat} {v : Value} {xs : List Value} (h : w.ownsRow B t 1 v n xs) : ∃ q c, v = .slice q n c := by
  obtain ⟨_, ⟨rfl, h⟩ | ⟨g, cap, cur, rfl, _⟩⟩ := h
  · exact ⟨none, 0, by rw [h]⟩
  · exact ⟨_, _, rfl⟩
theorem own_base5 {w : World} {B t : Nat} {v : Value} {n : Nat} {xs : List Value} (h : w.ownsRow B t 1 v n xs) : ∀ k, v.ownBlock = some k → B ≤ k := by
  intro k hk
  obtain ⟨_, ⟨rfl, _⟩ | ⟨g', cap', cur, rfl, hg, _⟩⟩ := h
  · simp [Value.ownBlock] at hk
  · simp only [Value.ownBlock, Option.some.injEq] at hk
    omega
theorem conv_row {w : World} {q : Option Addr} {n c : Nat} {l : List UInt8} (hn : l.length = n) (h : Row w (.slice q n c) (l.map byteV)) :
    (convert 50 9 (.slice q n c)).run Tryz.prog w = .ok (.string ⟨l.toArray⟩) w := by
  subst hn
  have hin : Lib.BytesIn w q l.length (l.map fun (x : UInt8) => (x.toNat : Int)) := by
    intro hpos
    obtain ⟨p, cap, he, hh⟩ := h
    injection he with h1 h2 h3
    subst h1
    rcases hh with hz | ⟨b, o, hq, _, hc⟩
    · rw [List.map_eq_nil_iff] at hz; rw [hz] at hpos; simp at hpos
    · refine ⟨b, o, hq, fun i hi => ?_⟩
      have hi' : i < l.length := by simpa using hi
      rw [hc i (by simpa using hi')]
      simp [byteV, hi', List.getD_eq_getElem?_getD]
  have := hin.convert (by simp) c 50 5 9 Tryz.underlying50 Tryz.underlying5 Tryz.underlying9
  rw [this]
  have e : (l.map fun (x : UInt8) => (x.toNat : Int)).map (fun n => UInt8.ofNat n.toNat) = l := by
    rw [List.map_map]
    conv => rhs; rw [← List.map_id l]
    exact List.map_congr_left fun x _ => by simp
  exact congrArg (fun x : List UInt8 => Result.ok (Value.string ⟨x.toArray⟩) w) e
theorem conv_own {w : World} {B n : Nat} {q : Option Addr} {c : Nat} {l : List UInt8} (hn : l.length = n) (h : w.ownsRow B 5 1 (.slice q n c) n (l.map byteV)) :
    (convert 50 9 (.slice q n c)).run Tryz.prog w = .ok (.string ⟨l.toArray⟩) w := by
  exact conv_row hn (Row.of_owns h)

def QuoRel (s : ByteArray) (w : World) (R : List UInt8 × Nat × Nat) (g : Nat) (v5 v6 : Value) (W : World) : Prop :=
  ∃ (k : Nat) (out : List UInt8), v6 = .int .i64 (k : Int) ∧ k ≤ s.size ∧ g = s.size + 1 - k ∧ out.length ≤ k ∧ W.ownsRow w.heap.size 5 1 v5 out.length (out.map byteV) ∧ quotGo (s.data.toList.drop k) out k = R ∧
    Below w.heap.size w W ∧ w.heap.size ≤ W.heap.size
def quotV (R : List UInt8 × Nat × Nat) : Value := .tuple #[.string ⟨R.1.toArray⟩, .int .i64 (R.2.1 : Int), .int .i64 (R.2.2 : Int)]
set_option maxHeartbeats 8000000 in
theorem Quoted_any (s : ByteArray) (hs : s.size ≤ 1000000000000) (w : World) : Calls Tryz.prog 179 #[.string s] w fun e w' => e = .returned (quotV (quoted s.data.toList)) ∧ Below w.heap.size w w' := by
  by_cases hne : s = ⟨#[]⟩
  · subst hne
    go_enter Tryz.func179, Tryz.ntmps179
    go_wp2
    go_ret3
    exact ⟨rfl, Below.refl _ _⟩
  · have hie : s.toList.isEmpty = false := text_isE hne
    have hpos := text_len hne
    have hpos0 : (0 : Int) < (s.size : Int) := by omega
    have hl := drop_cons s 0 hpos
    rw [List.drop_zero] at hl
    by_cases h34 : s[0].toNat = 34
    · have hq : ((s[0].toNat : Int) != 34) = false := by rw [h34]; rfl
      have hR : quoted s.data.toList = quotGo (s.data.toList.drop 1) [] 1 := by
        rw [hl]; simp [quoted, h34]
      rw [hR]
      generalize hX : quotGo (s.data.toList.drop 1) [] 1 = R
      have HX := Lib.hid hX
      clear hX hl hR hne
      go_enter Tryz.func179, Tryz.ntmps179
      go_wp2_with fail
      go_loopg [5, 6] s.size (fun g v5 v6 W => QuoRel s w R g v5 v6 W)
      case atStart => exact ⟨1, [], rfl, by omega, by omega, by simp, by simp [World.ownsRow], HX.out, Below.refl _ _, Nat.le_refl _⟩
      case round =>
        obtain ⟨k, out, rfl, hk, hg, hol, hown, hR, hb, hbs⟩ := hrel
        have HG := Lib.hid hg
        clear hg
        by_cases hlt : k < s.size
        · have hk0 : (0 : Int) ≤ (k : Int) := by omega
          have hk1 : (k : Int) < (s.size : Int) := by omega
          have hwr : IntKind.i64.wrap ((k : Int) + 1) = (k : Int) + 1 := by rw [IntKind.wrap_i64]; omega
          rw [drop_cons s k hlt] at hR
          by_cases h1 : s[k].toNat = 34
          · have hq1 : ((s[k].toNat : Int) == 34) = true := by rw [h1]; rfl
            rw [quot_end _ _ _ _ h1] at hR
            subst hR
            obtain ⟨q, cp, rfl⟩ := own_form hown
            have hcv := conv_own (l := out) rfl hown
            go_wp2
            go_ret3
            exact ⟨rfl, hb⟩
          · have hq1 : ((s[k].toNat : Int) == 34) = false := by rw [beq_eq_false_iff_ne]; omega
            by_cases h2 : s[k].toNat = 92
            · have hq2 : ((s[k].toNat : Int) == 92) = true := by rw [h2]; rfl
              by_cases hlt2 : k + 1 < s.size
              · rw [drop_cons s (k + 1) hlt2] at hR
                cases hp : plainB s[k + 1].toNat with
                | true =>
                  have hP := pair_ok s hs k hlt2 hp wr
                  rw [quot_back _ _ _ _ _ h2 hp] at hR
                  generalize hd : s[k + 1] = d at hP hR
                  have HR := Lib.hid hR
                  clear hR hp hd
                  have hwr2 : IntKind.i64.wrap ((k : Int) + 1 + 1) = ((k + 2 : Nat) : Int) := by rw [IntKind.wrap_i64]; omega
                  go_wp2_with fail
                  refine hP.mono ?_
                  rintro e w2 ⟨rfl, hw2⟩
                  rw [hw2]
                  clear hw2 w2 hP
                  go_wp2_with (at_builtin; refine app_byte rfl _ _ rfl w.heap.size _ _ _ rfl (World.ownsRow.alloc (w := wr) hown _) ⟨wr.heap.size, 0, none⟩ 1 (byteV d) rfl (new_cell _ _ _) rfl (by omega) (by rw [World.size_alloc]; exact Nat.le_succ_of_le hbs) ?_; intro g' cap w' hown' hgr)
                  go_roundg (s.size + 1 - (k + 2))
                  case rel =>
                    refine ⟨k + 2, out ++ [d], rfl, by omega, rfl, by rw [List.length_append]; simp; omega, ?_, HR.out, ?_, ?_⟩
                    · rw [List.length_append, List.map_append]; exact hown'
                    · exact (hb.alloc hbs _).grown hgr (by rw [World.size_alloc]; exact Nat.le_succ_of_le hbs) (own_base5 hown)
                    · have := hgr.size
                      rw [World.size_alloc] at this
                      exact Nat.le_trans hbs (Nat.le_trans (Nat.le_succ _) this)
                  case measure => have := HG.out; omega
                | false =>
                  have hP := pair_bad s hs k hlt2 hp wr
                  rw [quot_back_bad _ _ _ _ _ h2 hp] at hR
                  subst hR
                  clear hp
                  go_wp2_with fail
                  refine hP.mono ?_
                  rintro e w2 ⟨rfl, hw2⟩
                  rw [hw2]
                  clear hw2 w2 hP
                  go_wp2
                  go_ret3
                  exact ⟨rfl, hb⟩
              · have hP := pair_end s hs k hlt2 hlt wr
                have hnil : s.data.toList.drop (k + 1) = [] := List.drop_eq_nil_of_le (by simp; omega)
                rw [hnil, quot_back_end _ _ _ h2] at hR
                subst hR
                go_wp2_with fail
                refine hP.mono ?_
                rintro e w2 ⟨rfl, hw2⟩
                rw [hw2]
                clear hw2 w2 hP
                go_wp2
                go_ret3
                exact ⟨rfl, hb⟩
            · have hq2 : ((s[k].toNat : Int) == 92) = false := by rw [beq_eq_false_iff_ne]; omega
              have hP := plain_text s[k].toNat wr
              cases hp : plainB s[k].toNat with
              | true =>
                rw [hp] at hP
                rw [quot_plain _ _ _ _ h1 h2 hp] at hR
                have HR := Lib.hid hR
                clear hR hp
                go_wp2_with fail
                refine hP.mono ?_
                rintro e w2 ⟨rfl, hw2⟩
                rw [hw2]
                clear hw2 w2 hP
                go_wp2_with (at_builtin; refine app_byte rfl _ _ rfl w.heap.size _ _ _ rfl (World.ownsRow.alloc (w := wr) hown _) ⟨wr.heap.size, 0, none⟩ 1 (byteV s[k]) rfl (new_cell _ _ _) rfl (by omega) (by rw [World.size_alloc]; exact Nat.le_succ_of_le hbs) ?_; intro g' cap w' hown' hgr)
                go_roundg (s.size + 1 - (k + 1))
                case rel =>
                  refine ⟨k + 1, out ++ [s[k]], rfl, by omega, rfl, by rw [List.length_append]; simp; omega, ?_, HR.out, ?_, ?_⟩
                  · rw [List.length_append, List.map_append]; exact hown'
                  · exact (hb.alloc hbs _).grown hgr (by rw [World.size_alloc]; exact Nat.le_succ_of_le hbs) (own_base5 hown)
                  · have := hgr.size
                    rw [World.size_alloc] at this
                    exact Nat.le_trans hbs (Nat.le_trans (Nat.le_succ _) this)
                case measure => have := HG.out; omega
              | false =>
                rw [hp] at hP
                rw [quot_bad _ _ _ _ h1 h2 hp] at hR
                subst hR
                clear hp
                go_wp2_with fail
                refine hP.mono ?_
                rintro e w2 ⟨rfl, hw2⟩
                rw [hw2]
                clear hw2 w2 hP
                go_wp2
                go_ret3
                exact ⟨rfl, hb⟩
        · have hnil : s.data.toList.drop k = [] := List.drop_eq_nil_of_le (by simp; omega)
          have hge : ¬ (k : Int) < (s.size : Int) := by omega
          rw [hnil] at hR
          have hR2 : ([], 0, 4) = R := by rw [← hR]; rfl
          subst hR2
          clear hR
          go_wp2
          go_ret3
          exact ⟨rfl, hb⟩
    · have hq : ((s[0].toNat : Int) != 34) = true := by rw [bne_iff_ne]; omega
      have hR : quoted s.data.toList = ([], 0, 5) := by rw [hl]; simp [quoted, h34]
      rw [hR]
      clear hl hR hne
      go_enter Tryz.func179, Tryz.ntmps179
      go_wp2
      go_ret3
      exact ⟨rfl, Below.refl _ _⟩
end Go.Proofs.YtkoncmmbdlnmfaaGreatDoor
