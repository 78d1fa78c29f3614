/- addr's local, Parse, MayDomain and Split, and the document's Split, for texts of at most 10^9 bytes, where the package-level variables read as their texts lay them. -/
import Derived.Test.YtkoncmmbdlnmfaaGreatDoorEK7
namespace Go.Proofs.YtkoncmmbdlnmfaaGreatDoor
open Go.RowKit Go.Lib
set_option linter.unusedSimpArgs false
set_option linter.unusedVariables false
set_option linter.unnecessarySimpa false
set_option maxRecDepth 100000

theorem MayDomain_any (s : ByteArray) (hs : s.size ≤ 1000000000) (w : World) (hE : Env w) : Calls Tryz.prog 130 #[.string s] w fun e w' => e = .returned (.bool (decide (domL s.data.toList = 0))) ∧ Below w.heap.size w w' := by
  have HD := Lib.hid (domain_any s hs w hE)
  rcases domL_cases s.data.toList with h | h | h
  · rw [h] at HD ⊢
    clear h
    go_enter Tryz.func130, Tryz.ntmps130
    go_wp2_with fail
    refine HD.out.mono ?_
    rintro e w2 ⟨rfl, hb⟩
    go_wp2
    go_ret
    exact ⟨rfl, hb⟩
  · rw [h] at HD ⊢
    clear h
    go_enter Tryz.func130, Tryz.ntmps130
    go_wp2_with fail
    refine HD.out.mono ?_
    rintro e w2 ⟨rfl, hb⟩
    go_wp2
    go_ret
    exact ⟨rfl, hb⟩
  · rw [h] at HD ⊢
    clear h
    go_enter Tryz.func130, Tryz.ntmps130
    go_wp2_with fail
    refine HD.out.mono ?_
    rintro e w2 ⟨rfl, hb⟩
    go_wp2
    go_ret
    exact ⟨rfl, hb⟩
theorem has_pre (s : ByteArray) (c : UInt8) (b : Bool) (h : (s.data.toList.head? == some c) = b) (w : World) : Calls Tryz.prog 178 #[.string s, .string ⟨#[c]⟩] w fun e w' => e = .returned (.bool b) ∧ w' = w := by
  have hp : Lib.hasPrefix s.data.toList (⟨#[c]⟩ : ByteArray).data.toList = b := by
    show Lib.hasPrefix s.data.toList [c] = b
    rw [pre_one, h]
  have := Tryz.strings_HasPrefix s ⟨#[c]⟩ w
  rw [hp] at this
  exact this
theorem while_take (c : UInt8) : ∀ (l : List UInt8) (i : Nat), l[i]? = some c → (∀ k, k < i → l[k]? ≠ some c) → l.takeWhile (· != c) = l.take i ∧ l.dropWhile (· != c) = l.drop i
  | [], i, h, _ => by simp at h
  | x :: xs, 0, h, _ => by
    have hx : x = c := by simpa using h
    subst hx
    simp
  | x :: xs, i + 1, h, hn => by
    have hx : x ≠ c := by have := hn 0 (by omega); simpa using this
    have := while_take c xs i (by simpa using h) (fun k hk => by have := hn (k + 1) (by omega); simpa using this)
    simp [hx, this.1, this.2]
theorem while_none (c : UInt8) : ∀ (l : List UInt8), (∀ k : Nat, l[k]? ≠ some c) → l.takeWhile (· != c) = l ∧ l.dropWhile (· != c) = []
  | [], _ => ⟨rfl, rfl⟩
  | x :: xs, hn => by
    have hx : x ≠ c := by have := hn 0; simpa using this
    have := while_none c xs (fun k => by have := hn (k + 1); simpa using this)
    simp [hx, this.1, this.2]
theorem Quoted_many (s : ByteArray) : (quoted s.data.toList).2.1 ≤ s.size := by
  have := quoted_many s.data.toList
  rw [list_len] at this
  exact this
/-- what 'local' hands back: the word, the rest, whether it is a word; what is no word has no @ ahead that counts. -/
def LocPost (l : List UInt8) (w : World) (e : Ending) (w' : World) : Prop :=
  ∃ word rest b, e = .returned (.tuple #[.string ⟨word.toArray⟩, .string ⟨rest.toArray⟩, .bool b]) ∧ Below w.heap.size w w' ∧ word.length ≤ l.length ∧ rest.length ≤ l.length ∧
    ((b = true ∧ headL l = some (word, rest)) ∨ (b = false ∧ (headL l = none ∨ ∃ x, headL l = some (x, []))))
theorem quotGo_len : ∀ (l out : List UInt8) (k : Nat), (quotGo l out k).1.length ≤ out.length + l.length
  | [], _, _ => by simp [quotGo]
  | [c], out, k => by
    unfold quotGo
    split
    · simp
    · split
      · simp
      · split <;> simp
  | c :: d :: r, out, k => by
    unfold quotGo
    split
    · simp only [List.length_cons]; omega
    · split
      · split
        · have := quotGo_len r (out ++ [d]) (k + 2); simp only [List.length_cons, List.length_append, List.length_nil] at *; omega
        · simp
      · split
        · have := quotGo_len (d :: r) (out ++ [c]) (k + 1); simp only [List.length_cons, List.length_append, List.length_nil] at *; omega
        · simp
theorem quoted_len (l : List UInt8) : (quoted l).1.length ≤ l.length := by
  unfold quoted
  split
  · simp
  · split
    · have := quotGo_len ‹_› [] 1; simp only [List.length_cons, List.length_nil] at *; omega
    · simp
theorem empty_text (l : List UInt8) : (⟨l.toArray⟩ : ByteArray).toList = l := by rw [ByteArray.toList_eq]
set_option maxHeartbeats 8000000 in
theorem local_any (s : ByteArray) (hs : s.size ≤ 1000000000) (w : World) (hA : AText w) : Calls Tryz.prog 136 #[.string s] w fun e w' => LocPost s.data.toList w e w' := by
  by_cases h34 : s.data.toList.head? = some 34
  · have hP := has_pre s 34 true (by rw [h34]; simp) w
    have hQ := Quoted_any s (by omega) w
    have hm := Quoted_many s
    have hH : headL s.data.toList = if (quoted s.data.toList).2.2 = 0 ∧ (quoted s.data.toList).1 ≠ [] then some ((quoted s.data.toList).1, s.data.toList.drop (quoted s.data.toList).2.1) else none := by unfold headL; rw [if_pos h34]
    have hlen := quoted_len s.data.toList
    have hed := ext_drop s (quoted s.data.toList).2.1
    have hrl : (s.data.toList.drop (quoted s.data.toList).2.1).length ≤ s.data.toList.length := by rw [List.length_drop]; omega
    generalize quoted s.data.toList = R at *
    obtain ⟨X, m, er⟩ := R
    simp only [quotV] at hQ
    simp only at hm hH hlen hed hrl
    have hYe := empty_text X
    generalize hY : (⟨X.toArray⟩ : ByteArray) = Y at hQ hYe
    have HY := Lib.hid hY
    have HQ := Lib.hid hQ
    have HH := Lib.hid hH
    have HLEN := Lib.hid hlen
    have HRL := Lib.hid hrl
    clear hY hQ hH hlen hrl h34
    have hm0 : (0 : Int) ≤ (m : Int) := by omega
    have hm1 : (m : Int) ≤ (s.size : Int) := by omega
    by_cases he : er = 0
    · subst he
      by_cases hx : X = []
      · subst hx
        have hie : Y.toList.isEmpty = true := by rw [hYe]; rfl
        have hin : Y.toList = [] := hYe
        clear hYe
        go_enter Tryz.func136, Tryz.ntmps136
        go_wp2_with fail
        refine hP.mono ?_
        rintro e w2 ⟨rfl, hw2⟩
        rw [hw2]
        clear hw2 w2 hP
        go_wp2_with fail
        refine HQ.out.mono ?_
        rintro e w2 ⟨rfl, hb⟩
        go_wp2_with fail
        go_quiet (fail)
        go_wp2
        go_ret3
        refine ⟨[], s.data.toList.drop m, false, ?_, hb.trans ((drewN_below w2 _).mono hb.size), HLEN.out, HRL.out, .inr ⟨rfl, .inl ?_⟩⟩
        · rw [HY.out, ← hed]; simp [hin, hie]
        · rw [HH.out, if_neg (by simp)]
      · have hie : Y.toList.isEmpty = false := by rw [hYe]; cases X with | nil => exact absurd rfl hx | cons a b => rfl
        have hin : ¬ Y.toList = [] := by rw [hYe]; exact hx
        clear hYe
        go_enter Tryz.func136, Tryz.ntmps136
        go_wp2_with fail
        refine hP.mono ?_
        rintro e w2 ⟨rfl, hw2⟩
        rw [hw2]
        clear hw2 w2 hP
        go_wp2_with fail
        refine HQ.out.mono ?_
        rintro e w2 ⟨rfl, hb⟩
        go_wp2_with fail
        go_quiet (fail)
        go_wp2
        go_ret3
        refine ⟨X, s.data.toList.drop m, true, ?_, hb.trans ((drewN_below w2 _).mono hb.size), HLEN.out, HRL.out, .inl ⟨rfl, ?_⟩⟩
        · rw [HY.out, ← hed]; simp [hin, hie]
        · rw [HH.out, if_pos (by simpa using hx)]
    · have he0 : ((er : Int) == 0) = false := by rw [beq_eq_false_iff_ne]; omega
      clear hYe
      go_enter Tryz.func136, Tryz.ntmps136
      go_wp2_with fail
      refine hP.mono ?_
      rintro e w2 ⟨rfl, hw2⟩
      rw [hw2]
      clear hw2 w2 hP
      go_wp2_with fail
      refine HQ.out.mono ?_
      rintro e w2 ⟨rfl, hb⟩
      go_wp2_with fail
      go_quiet (fail)
      go_wp2
      go_ret3
      refine ⟨X, s.data.toList.drop m, false, ?_, hb.trans ((drewN_below w2 _).mono hb.size), HLEN.out, HRL.out, .inr ⟨rfl, .inl ?_⟩⟩
      · rw [HY.out, ← hed]; simp [he0]
      · rw [HH.out, if_neg (by simp [he])]
  · have hP := has_pre s 34 false (by simpa using h34) w
    have hH : headL s.data.toList = if dotGo (s.data.toList.takeWhile (· != 64)) true then some (s.data.toList.takeWhile (· != 64), s.data.toList.dropWhile (· != 64)) else none := by unfold headL; rw [if_neg h34]
    have hI : Calls Tryz.prog 174 #[.string s, .int .u8 64] w fun e w' => e = .returned (.int .i64 (Lib.indexByte s.data.toList 64)) ∧ w' = w := by
      have := Tryz.strings_IndexByte s 64 w
      simpa using this
    have hAd := hA.below (drew_below w)
    rcases Lib.indexB_cases s ⟨#[64]⟩ with h1 | ⟨i, h1, h2⟩
    · have h3 : Lib.indexByte s.data.toList 64 = -1 := by rw [← Lib.index_one]; exact h1
      obtain ⟨hw1, hw2⟩ := while_none 64 _ (Lib.indexByte_none h3)
      rw [hw1, hw2] at hH
      rw [h3] at hI
      have hD := Lib.hid (fun W hA => DotAtom_any ⟨#[]⟩ (by decide) W hA)
      have he0 : s.extract 0 0 = ⟨#[]⟩ := by rw [ext_take]; rfl
      have he1 : s.extract 0 s.size = s := by rw [ext_drop]; cases s; simp
      have HH := Lib.hid hH
      have hsz : (0 : Int) ≤ (s.size : Int) := by omega
      have hmx : max (-1 : Int) 0 = 0 := by decide
      clear hH hw1 hw2 h3 h1 h34
      go_enter Tryz.func136, Tryz.ntmps136
      go_wp2_with fail
      refine hP.mono ?_
      rintro e w2 ⟨rfl, hw2⟩
      rw [hw2]
      clear hw2 w2 hP
      go_wp2_with fail
      refine hI.mono ?_
      rintro e w2 ⟨rfl, hw2⟩
      rw [hw2]
      clear hw2 w2 hI
      go_wp2_with fail
      go_region_held3 (fun _ => True) (trivial) (first | (go_at_call 81; refine (hD.out _ hAd).mono ?_; rintro e w3 ⟨rfl, hb3⟩))
      go_wp2
      go_ret3
      refine ⟨[], s.data.toList, false, ?_, (drew_below w).trans (hb3.mono (Nat.le_refl _)), by simp, Nat.le_refl _, .inr ⟨rfl, ?_⟩⟩
      · simp [he1, dotGo]; rfl
      · rw [HH.out]
        cases dotGo s.data.toList true with
        | true => exact .inr ⟨_, rfl⟩
        | false => exact .inl rfl
    · have h3 : Lib.indexByte s.data.toList 64 = i := by rw [← Lib.index_one]; exact h1
      have hir : i < s.size := h2
      obtain ⟨hw1, hw2⟩ := while_take 64 _ i (Lib.indexByte_some h3).1 (Lib.indexByte_some h3).2
      rw [hw1, hw2] at hH
      rw [h3] at hI
      have e1 := ext_take s i
      have e2 := ext_drop s i
      have hD := fun W hA => DotAtom_any ⟨(s.data.toList.take i).toArray⟩ (by show (s.data.toList.take i).length ≤ _; rw [List.length_take, list_len]; omega) W hA
      rw [← e1] at hD
      have e3 : (s.extract 0 i).data.toList = s.data.toList.take i := by rw [e1]
      rw [e3] at hD
      have HD := Lib.hid hD
      have HH := Lib.hid hH
      have hi0 : (0 : Int) ≤ (i : Int) := by omega
      have hi1 : (i : Int) ≤ (s.size : Int) := by omega
      have hmx : max (i : Int) 0 = (i : Int) := by omega
      have HL1 := Lib.hid (show (s.data.toList.take i).length ≤ s.data.toList.length by rw [List.length_take]; omega)
      have HL2 := Lib.hid (show (s.data.toList.drop i).length ≤ s.data.toList.length by rw [List.length_drop]; omega)
      generalize dotGo (s.data.toList.take i) true = Q at HD HH
      have E1 := Lib.hid e1
      have E2 := Lib.hid e2
      clear hH hw1 hw2 h3 h1 h34 h2 hD e3 e1 e2
      go_enter Tryz.func136, Tryz.ntmps136
      go_wp2_with fail
      refine hP.mono ?_
      rintro e w2 ⟨rfl, hw2⟩
      rw [hw2]
      clear hw2 w2 hP
      go_wp2_with fail
      refine hI.mono ?_
      rintro e w2 ⟨rfl, hw2⟩
      rw [hw2]
      clear hw2 w2 hI
      go_wp2_with fail
      go_region_held3 (fun _ => True) (trivial) (first | (go_at_call 81; refine (HD.out _ hAd).mono ?_; rintro e w3 ⟨rfl, hb3⟩))
      go_wp2
      go_ret3
      refine ⟨s.data.toList.take i, s.data.toList.drop i, Q, ?_, (drew_below w).trans (hb3.mono (Nat.le_refl _)), HL1.out, HL2.out, ?_⟩
      · rw [← E1.out, ← E2.out]; simp
      · cases Q with
        | true => exact .inl ⟨rfl, by rw [HH.out]; rfl⟩
        | false => exact .inr ⟨rfl, .inl (by rw [HH.out]; rfl)⟩

def addrV (a : List UInt8 × List UInt8) : Value := .agg #[.string ⟨a.1.toArray⟩, .string ⟨a.2.toArray⟩]
def parV (R : List UInt8 × List UInt8 × Nat) : Value := .tuple #[addrV (R.1, R.2.1), .int .i64 (R.2.2 : Int)]
theorem tailL_nil (word : List UInt8) : tailL word [] = ([], [], 5) := rfl
/-- the variable of a result that is an address, behind calls that write new memory alone. -/
theorem addr_var (w W : World) (x y : Value) (hb : Below (w.alloc (.cells #[x, y] 26)).heap.size (w.alloc (.cells #[x, y] 26)) W) :
    W.cell? ⟨w.heap.size, 0, none⟩ = some x ∧ W.cell? ⟨w.heap.size, 1, none⟩ = some y ∧ W.frozen? ⟨w.heap.size, 0, none⟩ = false ∧ W.frozen? ⟨w.heap.size, 1, none⟩ = false := by
  have h : W.heap[w.heap.size]? = some (.cells #[x, y] 26 (0, 0)) := by
    rw [hb.block w.heap.size (by rw [World.size_alloc]; exact Nat.lt_succ_self _)]
    exact heap_alloc_new w _
  simp [World.cell?, World.frozen?, h]
theorem set_same (W : World) (a : Addr) (x x' : Value) (h : W.cell? a = some x) : (W.setCell a x').cell? a = some x' := World.cell?_setCell_same _ _ _ h
theorem set_first (W : World) (B : Nat) (x y x' y' : Value) (h : W.cell? ⟨B, 0, none⟩ = some x) (h1 : W.cell? ⟨B, 1, none⟩ = some y) : ((W.setCell ⟨B, 0, none⟩ x').setCell ⟨B, 1, none⟩ y').cell? ⟨B, 1, none⟩ = some y' :=
  set_same _ _ y _ ((World.cell?_setCell_other _ _ _ _ (by intro e; injection e with _ e2 _; cases e2)).trans h1)
set_option maxHeartbeats 8000000 in
theorem Parse_any (s : ByteArray) (hs : s.size ≤ 1000000000) (w : World) (hE : Env w) : Calls Tryz.prog 84 #[.string s] w fun e w' => e = .returned (parV (parseL s.data.toList)) ∧ Below w.heap.size w w' := by
  have hb0 : Below w.heap.size w (w.alloc (.cells #[.string ⟨#[]⟩, .string ⟨#[]⟩] 26)) := alloc_below w _
  have HL := Lib.hid (local_any s hs _ (hE.below hb0).atx)
  have HP := Lib.hid (show parseL s.data.toList = match headL s.data.toList with | none => ([], [], 5) | some (word, rest) => tailL word rest from rfl)
  have hls : s.data.toList.length ≤ 1000000000 := by rw [list_len]; exact hs
  generalize s.data.toList = l at HL HP hls
  generalize parseL l = R at HP
  go_enter Tryz.func84, Tryz.ntmps84
  go_wp2_with fail
  refine HL.out.mono ?_
  rintro e w2 ⟨word, rest, b, rfl, hb2, hwl, hrl, hcase⟩
  have HCS := Lib.hid hcase
  clear hcase
  have e1 : (⟨rest.toArray⟩ : ByteArray).data.toList = rest := rfl
  have e2 : (⟨rest.toArray⟩ : ByteArray).size = rest.length := rfl
  have hbw2 := hb0.trans (hb2.mono hb0.size)
  by_cases hr : rest.head? = some 64
  · have hC := cut_pre ⟨rest.toArray⟩ 64 (by rw [e1]; exact hr) w2
    rw [e1] at hC
    have hform := head_form _ _ hr
    have hdl : (rest.drop 1).length ≤ 1000000000 := by rw [List.length_drop]; omega
    generalize rest.drop 1 = d at hC hform hdl
    have hD := domain_any ⟨d.toArray⟩ hdl w2 (hE.below hbw2)
    have e3 : (⟨d.toArray⟩ : ByteArray).data.toList = d := rfl
    rw [e3] at hD
    have hdc := domL_cases d
    have HT := Lib.hid (show tailL word rest = if domL d = 5 then ([], [], 5) else if domL d = 3 ∨ 64 < word.length then ([], [], 3) else (word, d, 0) by rw [hform]; rfl)
    have HDD := Lib.hid (domL_cases d)
    generalize domL d = k at hD HT HDD
    have HDom := Lib.hid hD
    clear hD e1 e2 e3 hform hr
    go_wp2_with fail
    refine hC.mono ?_
    rintro e w3 ⟨rfl, hw3⟩
    rw [hw3]
    clear hw3 w3 hC
    go_wp2_with fail
    refine HDom.out.mono ?_
    rintro e w4 ⟨rfl, hb4⟩
    obtain ⟨c0, c1, f0, f1⟩ := addr_var w w4 _ _ (hb2.trans (hb4.mono hb2.size))
    have hbw4 := hbw2.trans (hb4.mono hbw2.size)
    cases b with
    | false =>
      have hR : R = ([], [], 5) := by
        rcases HCS.out with ⟨h, _⟩ | ⟨_, h | ⟨x, h⟩⟩
        · cases h
        · rw [HP.out, h]
        · rw [HP.out, h]; rfl
      have HR := Lib.hid hR
      clear hR
      go_wp2
      have hR := HR.out
      refine bodyPost_ret (v := .tuple #[.agg #[.string ⟨#[]⟩, .string ⟨#[]⟩], .int .i64 5]) (by rw [results_cell_tmp Tryz.results84]; simp [go_sem, set_same _ _ _ _ c0, set_first _ _ _ _ _ _ c0 c1]) rfl ⟨?_, ?_⟩
      · rw [hR]; rfl
      · exact (hbw4.setCell (p := ⟨w.heap.size, 0, none⟩) (Nat.le_refl _) _).setCell (p := ⟨w.heap.size, 1, none⟩) (Nat.le_refl _) _
    | true =>
      have hR0 : R = if k = 5 then ([], [], 5) else if k = 3 ∨ 64 < word.length then ([], [], 3) else (word, d, 0) := by
        rcases HCS.out with ⟨_, h⟩ | ⟨h, _⟩
        · rw [HP.out, h]; exact HT.out
        · cases h
      rcases HDD.out with rfl | rfl | rfl
      · by_cases h64 : 64 < word.length
        · have h640 : (64 : Int) < (word.length : Int) := by omega
          rw [if_neg (by decide), if_pos (Or.inr h64)] at hR0
          have HR := Lib.hid hR0
          clear hR0
          go_wp2
          have hR := HR.out
          refine bodyPost_ret (v := .tuple #[.agg #[.string ⟨#[]⟩, .string ⟨#[]⟩], .int .i64 3]) (by rw [results_cell_tmp Tryz.results84]; simp [go_sem, set_same _ _ _ _ c0, set_first _ _ _ _ _ _ c0 c1]) rfl ⟨?_, ?_⟩
          · rw [hR]; rfl
          · exact (hbw4.setCell (p := ⟨w.heap.size, 0, none⟩) (Nat.le_refl _) _).setCell (p := ⟨w.heap.size, 1, none⟩) (Nat.le_refl _) _
        · have h640 : ¬ (64 : Int) < (word.length : Int) := by omega
          rw [if_neg (by decide), if_neg (by omega)] at hR0
          have HR := Lib.hid hR0
          clear hR0
          go_wp2
          have hR := HR.out
          refine bodyPost_ret (v := .tuple #[.agg #[.string ⟨word.toArray⟩, .string ⟨d.toArray⟩], .int .i64 0]) (by rw [results_cell_tmp Tryz.results84]; simp [go_sem, set_same _ _ _ _ c0, set_first _ _ _ _ _ _ c0 c1]) rfl ⟨?_, ?_⟩
          · rw [hR]; rfl
          · exact (hbw4.setCell (p := ⟨w.heap.size, 0, none⟩) (Nat.le_refl _) _).setCell (p := ⟨w.heap.size, 1, none⟩) (Nat.le_refl _) _
      · rw [if_neg (by decide), if_pos (Or.inl rfl)] at hR0
        have HR := Lib.hid hR0
        clear hR0
        go_wp2
        have hR := HR.out
        refine bodyPost_ret (v := .tuple #[.agg #[.string ⟨#[]⟩, .string ⟨#[]⟩], .int .i64 3]) (by rw [results_cell_tmp Tryz.results84]; simp [go_sem, set_same _ _ _ _ c0, set_first _ _ _ _ _ _ c0 c1]) rfl ⟨?_, ?_⟩
        · rw [hR]; rfl
        · exact (hbw4.setCell (p := ⟨w.heap.size, 0, none⟩) (Nat.le_refl _) _).setCell (p := ⟨w.heap.size, 1, none⟩) (Nat.le_refl _) _
      · rw [if_pos rfl] at hR0
        have HR := Lib.hid hR0
        clear hR0
        go_wp2
        have hR := HR.out
        refine bodyPost_ret (v := .tuple #[.agg #[.string ⟨#[]⟩, .string ⟨#[]⟩], .int .i64 5]) (by rw [results_cell_tmp Tryz.results84]; simp [go_sem, set_same _ _ _ _ c0, set_first _ _ _ _ _ _ c0 c1]) rfl ⟨?_, ?_⟩
        · rw [hR]; rfl
        · exact (hbw4.setCell (p := ⟨w.heap.size, 0, none⟩) (Nat.le_refl _) _).setCell (p := ⟨w.heap.size, 1, none⟩) (Nat.le_refl _) _
  · have hC := cut_pre_no ⟨rest.toArray⟩ 64 (by rw [e1]; exact hr) w2
    have hD := domain_any ⟨rest.toArray⟩ (by rw [e2]; omega) w2 (hE.below hbw2)
    generalize (domL (⟨rest.toArray⟩ : ByteArray).data.toList) = k at hD
    have HDom := Lib.hid hD
    have hR : R = ([], [], 5) := by
      rcases HCS.out with ⟨_, h⟩ | ⟨_, h | ⟨x, h⟩⟩
      · rw [HP.out, h]
        cases rest with
        | nil => rfl
        | cons c d =>
          have hc : c ≠ 64 := by rintro rfl; exact hr rfl
          simp [tailL, hc]
      · rw [HP.out, h]
      · rw [HP.out, h]; rfl
    have HR := Lib.hid hR
    clear hD e1 e2 hr hR
    go_wp2_with fail
    refine hC.mono ?_
    rintro e w3 ⟨rfl, hw3⟩
    rw [hw3]
    clear hw3 w3 hC
    go_wp2_with fail
    refine HDom.out.mono ?_
    rintro e w4 ⟨rfl, hb4⟩
    obtain ⟨c0, c1, f0, f1⟩ := addr_var w w4 _ _ (hb2.trans (hb4.mono hb2.size))
    have hbw4 := hbw2.trans (hb4.mono hbw2.size)
    cases b with
    | false =>
      go_wp2
      have hR := HR.out
      refine bodyPost_ret (v := .tuple #[.agg #[.string ⟨#[]⟩, .string ⟨#[]⟩], .int .i64 5]) (by rw [results_cell_tmp Tryz.results84]; simp [go_sem, set_same _ _ _ _ c0, set_first _ _ _ _ _ _ c0 c1]) rfl ⟨?_, ?_⟩
      · rw [hR]; rfl
      · exact (hbw4.setCell (p := ⟨w.heap.size, 0, none⟩) (Nat.le_refl _) _).setCell (p := ⟨w.heap.size, 1, none⟩) (Nat.le_refl _) _
    | true =>
      go_wp2
      have hR := HR.out
      refine bodyPost_ret (v := .tuple #[.agg #[.string ⟨#[]⟩, .string ⟨#[]⟩], .int .i64 5]) (by rw [results_cell_tmp Tryz.results84]; simp [go_sem, set_same _ _ _ _ c0, set_first _ _ _ _ _ _ c0 c1]) rfl ⟨?_, ?_⟩
      · rw [hR]; rfl
      · exact (hbw4.setCell (p := ⟨w.heap.size, 0, none⟩) (Nat.le_refl _) _).setCell (p := ⟨w.heap.size, 1, none⟩) (Nat.le_refl _) _

end Go.Proofs.YtkoncmmbdlnmfaaGreatDoor
