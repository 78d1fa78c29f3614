/- cmp.Compare of two texts and cmp.Or of two numbers; the order of texts, byte by byte, and what it is good for. -/
import Derived.Test.YtffngbjnbigipaaGreatDoorTxt
namespace Go.Proofs.YtffngbjnbigipaaGreatDoor
open Go.RowKit Go.Lib
set_option linter.unusedSimpArgs false
set_option linter.unusedVariables false
set_option linter.unnecessarySimpa false
set_option maxRecDepth 100000

/-! the order of texts -/
theorem less_nil (l : List UInt8) : Op.bytesLess l [] = false := by cases l <;> rfl
theorem less_cons (a b : UInt8) (x y : List UInt8) : Op.bytesLess (a :: x) (b :: y) = (decide (a < b) || (a == b && Op.bytesLess x y)) := rfl
theorem less_irrefl : ∀ l : List UInt8, Op.bytesLess l l = false
  | [] => rfl
  | a :: l => by
    rw [less_cons, less_irrefl l]
    have : ¬ a < a := UInt8.lt_irrefl a
    simp [this]
theorem less_total : ∀ x y : List UInt8, Op.bytesLess x y = false → x ≠ y → Op.bytesLess y x = true
  | [], [], _, h => absurd rfl h
  | [], _ :: _, h, _ => by cases h
  | _ :: _, [], _, _ => rfl
  | a :: x, b :: y, h, hne => by
    rw [less_cons] at h ⊢
    simp only [Bool.or_eq_false_iff, decide_eq_false_iff_not, Bool.and_eq_false_iff] at h
    obtain ⟨h1, h2⟩ := h
    rcases UInt8.lt_or_eq_of_le (UInt8.not_lt.1 h1) with h3 | h3
    · simp [h3]
    · subst h3
      rcases h2 with h2 | h2
      · simp at h2
      · have := less_total x y h2 (fun e => hne (by rw [e]))
        simp [this]
theorem less_trans : ∀ x y z : List UInt8, Op.bytesLess x y = true → Op.bytesLess y z = true → Op.bytesLess x z = true
  | _, [], _, h, _ => by rw [less_nil] at h; cases h
  | _, _ :: _, [], _, h => by rw [less_nil] at h; cases h
  | [], _ :: _, _ :: _, _, _ => rfl
  | a :: x, b :: y, c :: z, h1, h2 => by
    rw [less_cons] at h1 h2 ⊢
    simp only [Bool.or_eq_true, decide_eq_true_eq, Bool.and_eq_true, beq_iff_eq] at h1 h2 ⊢
    rcases h1 with h1 | ⟨rfl, h1⟩
    · rcases h2 with h2 | ⟨rfl, h2⟩
      · exact .inl (UInt8.lt_trans h1 h2)
      · exact .inl h1
    · rcases h2 with h2 | ⟨rfl, h2⟩
      · exact .inl h2
      · exact .inr ⟨rfl, less_trans x y z h1 h2⟩
theorem less_asymm (x y : List UInt8) (h : Op.bytesLess x y = true) : Op.bytesLess y x = false := by
  cases h2 : Op.bytesLess y x with
  | false => rfl
  | true =>
    have := less_trans x y x h h2
    rw [less_irrefl] at this
    cases this
def cmpL (x y : List UInt8) : Int := if Op.bytesLess x y = true then -1 else if (x == y) = true then 0 else 1
theorem cmp_cases (x y : List UInt8) : (cmpL x y = -1 ∧ Op.bytesLess x y = true ∧ x ≠ y) ∨ (cmpL x y = 0 ∧ x = y) ∨ (cmpL x y = 1 ∧ Op.bytesLess y x = true ∧ x ≠ y) := by
  unfold cmpL
  cases h : Op.bytesLess x y with
  | true => exact .inl ⟨by simp, rfl, by rintro rfl; rw [less_irrefl] at h; cases h⟩
  | false =>
    by_cases he : x = y
    · subst he; exact .inr (.inl ⟨by simp, rfl⟩)
    · exact .inr (.inr ⟨by simp [he], less_total x y h he, he⟩)
theorem cmp_turn (x y : List UInt8) : cmpL y x = - cmpL x y := by
  rcases cmp_cases x y with ⟨h, h1, h2⟩ | ⟨h, h1⟩ | ⟨h, h1, h2⟩
  · rw [h]; unfold cmpL; rw [if_neg (by rw [less_asymm x y h1]; simp), if_neg (by simpa using Ne.symm h2)]; rfl
  · subst h1; rw [h]; rfl
  · rw [h]; unfold cmpL; rw [if_pos h1]
theorem cmp_zero (x y : List UInt8) : cmpL x y = 0 ↔ x = y := by
  rcases cmp_cases x y with ⟨h, h1, h2⟩ | ⟨h, h1⟩ | ⟨h, h1, h2⟩
  · rw [h]; exact ⟨fun e => (by cases e), fun e => absurd e h2⟩
  · exact ⟨fun _ => h1, fun _ => h⟩
  · rw [h]; exact ⟨fun e => (by cases e), fun e => absurd e h2⟩
theorem cmp_neg (x y : List UInt8) : cmpL x y = -1 ↔ Op.bytesLess x y = true := by
  rcases cmp_cases x y with ⟨h, h1, h2⟩ | ⟨h, h1⟩ | ⟨h, h1, h2⟩
  · exact ⟨fun _ => h1, fun _ => h⟩
  · rw [h]; exact ⟨fun e => (by cases e), fun e => by rw [h1, less_irrefl] at e; cases e⟩
  · rw [h]; exact ⟨fun e => (by cases e), fun e => by rw [less_asymm x y e] at h1; cases h1⟩
/-- addresses in their normal forms: the domain, then the local part. -/
def ordL (p q : List UInt8 × List UInt8) : Int := if cmpL p.2 q.2 = 0 then cmpL p.1 q.1 else cmpL p.2 q.2
theorem ord_turn (p q : List UInt8 × List UInt8) : ordL q p = - ordL p q := by
  unfold ordL
  rw [cmp_turn p.2 q.2, cmp_turn p.1 q.1]
  by_cases h : cmpL p.2 q.2 = 0
  · rw [if_pos h, if_pos (by omega)]
  · rw [if_neg h, if_neg (by omega)]
theorem ord_zero (p q : List UInt8 × List UInt8) : ordL p q = 0 ↔ p = q := by
  unfold ordL
  obtain ⟨p1, p2⟩ := p
  obtain ⟨q1, q2⟩ := q
  simp only [Prod.mk.injEq]
  by_cases h : cmpL p2 q2 = 0
  · rw [if_pos h, cmp_zero]
    have := (cmp_zero p2 q2).1 h
    exact ⟨fun e => ⟨e, this⟩, fun e => e.1⟩
  · rw [if_neg h]
    exact ⟨fun e => absurd e h, fun e => absurd ((cmp_zero p2 q2).2 e.2) h⟩
theorem ord_vals (p q : List UInt8 × List UInt8) : ordL p q = -1 ∨ ordL p q = 0 ∨ ordL p q = 1 := by
  unfold ordL
  split
  · rcases cmp_cases p.1 q.1 with ⟨h, _⟩ | ⟨h, _⟩ | ⟨h, _⟩ <;> simp [h]
  · rcases cmp_cases p.2 q.2 with ⟨h, _⟩ | ⟨h, _⟩ | ⟨h, _⟩ <;> simp [h]
theorem ord_neg (p q : List UInt8 × List UInt8) : ordL p q = -1 ↔ (Op.bytesLess p.2 q.2 = true ∨ (p.2 = q.2 ∧ Op.bytesLess p.1 q.1 = true)) := by
  unfold ordL
  by_cases h : cmpL p.2 q.2 = 0
  · rw [if_pos h, cmp_neg]
    have he := (cmp_zero _ _).1 h
    exact ⟨fun e => .inr ⟨he, e⟩, fun e => by rcases e with e | e; (· rw [he, less_irrefl] at e; cases e); exact e.2⟩
  · rw [if_neg h, cmp_neg]
    have he : p.2 ≠ q.2 := fun e => h ((cmp_zero _ _).2 e)
    exact ⟨fun e => .inl e, fun e => by rcases e with e | e; (· exact e); exact absurd e.1 he⟩
theorem ord_trans (p q r : List UInt8 × List UInt8) (h1 : ordL p q ≤ 0) (h2 : ordL q r ≤ 0) : ordL p r ≤ 0 := by
  rcases ord_vals p q with e1 | e1 | e1
  · rcases ord_vals q r with e2 | e2 | e2
    · have := (ord_neg p r).2 (by
        rcases (ord_neg p q).1 e1 with a | ⟨a, b⟩
        · rcases (ord_neg q r).1 e2 with c | ⟨c, d⟩
          · exact .inl (less_trans _ _ _ a c)
          · exact .inl (by rw [← c]; exact a)
        · rcases (ord_neg q r).1 e2 with c | ⟨c, d⟩
          · exact .inl (by rw [a]; exact c)
          · exact .inr ⟨a.trans c, less_trans _ _ _ b d⟩)
      omega
    · rw [← (ord_zero q r).1 e2]; exact h1
    · omega
  · rw [(ord_zero p q).1 e1]; exact h2
  · omega
theorem ord_none (p q r : List UInt8 × List UInt8) (h1 : ordL p q = 0) (h2 : ordL q r = 0) : ordL p r = 0 := by
  rw [(ord_zero p q).1 h1]; exact h2

/-! the calls -/
theorem isNaN_any (s : ByteArray) (w : World) : Calls Tryz.prog 97 #[.string s] w fun e w' => e = .returned (.bool false) ∧ w' = w := by
  go_enter Tryz.func97, Tryz.ntmps97
  go_wp2
  go_ret
  exact ⟨by simp, rfl⟩
set_option maxHeartbeats 4000000 in
theorem cmp_any (s t : ByteArray) (w : World) : Calls Tryz.prog 51 #[.string s, .string t] w fun e w' => e = .returned (.int .i64 (cmpL s.data.toList t.data.toList)) ∧ w' = w := by
  have e1 : s.toList = s.data.toList := ByteArray.toList_eq s
  have e2 : t.toList = t.data.toList := ByteArray.toList_eq t
  rw [← e1, ← e2]
  have HS := Lib.hid (isNaN_any s w)
  have HT := Lib.hid (isNaN_any t w)
  have HC := Lib.hid (cmp_cases s.toList t.toList)
  generalize cmpL s.toList t.toList = n at HC
  clear e1 e2
  cases h1 : Op.bytesLess s.toList t.toList with
  | true =>
    have hn : n = -1 := by
      rcases HC.out with ⟨h, _⟩ | ⟨_, h⟩ | ⟨_, h, _⟩
      · exact h
      · rw [h, less_irrefl] at h1; cases h1
      · rw [less_asymm _ _ h] at h1; cases h1
    subst hn
    go_enter Tryz.func51, Tryz.ntmps51
    go_wp2_with fail
    refine HS.out.mono ?_
    rintro e w2 ⟨rfl, rfl⟩
    go_wp2_with fail
    refine HT.out.mono ?_
    rintro e w2 ⟨rfl, rfl⟩
    go_wp2
    go_ret
    exact ⟨rfl, rfl⟩
  | false =>
    by_cases h2 : s.toList = t.toList
    · have hn : n = 0 := by
        rcases HC.out with ⟨_, _, h⟩ | ⟨h, _⟩ | ⟨_, _, h⟩
        · exact absurd h2 h
        · exact h
        · exact absurd h2 h
      subst hn
      have hir := less_irrefl t.toList
      go_enter Tryz.func51, Tryz.ntmps51
      go_wp2_with fail
      refine HS.out.mono ?_
      rintro e w2 ⟨rfl, rfl⟩
      go_wp2_with fail
      refine HT.out.mono ?_
      rintro e w2 ⟨rfl, rfl⟩
      go_wp2
      go_ret
      exact ⟨rfl, rfl⟩
    · have hn : n = 1 := by
        rcases HC.out with ⟨_, h, _⟩ | ⟨_, h⟩ | ⟨h, _, _⟩
        · rw [h] at h1; cases h1
        · exact absurd h h2
        · exact h
      subst hn
      have h3 : (s.toList == t.toList) = false := by simpa using h2
      go_enter Tryz.func51, Tryz.ntmps51
      go_wp2_with fail
      refine HS.out.mono ?_
      rintro e w2 ⟨rfl, rfl⟩
      go_wp2_with fail
      refine HT.out.mono ?_
      rintro e w2 ⟨rfl, rfl⟩
      go_wp2
      go_ret
      exact ⟨rfl, rfl⟩
def OrRel (a b : Int) (w : World) (g : Nat) (v8 : Value) (W : World) : Prop := W = w ∧ ((v8 = .int .i64 0 ∧ g = 2) ∨ (v8 = .int .i64 1 ∧ g = 1 ∧ a = 0) ∨ (v8 = .int .i64 2 ∧ g = 0 ∧ a = 0 ∧ b = 0))
set_option maxHeartbeats 4000000 in
theorem or_two (B cap : Nat) (a b : Int) (w : World) (h0 : w.cell? ⟨B, 0, none⟩ = some (.int .i64 a)) (h1 : w.cell? ⟨B, 1, none⟩ = some (.int .i64 b)) :
    Calls Tryz.prog 50 #[.slice (some ⟨B, 0, none⟩) 2 cap] w fun e w' => e = .returned (.int .i64 (if a = 0 then b else a)) ∧ w' = w := by
  generalize hn : (if a = 0 then b else a) = n
  have HN := Lib.hid hn
  clear hn
  go_enter Tryz.func50, Tryz.ntmps50
  go_wp2_with fail
  go_loopg [8] 2 (fun g v8 W => OrRel a b w g v8 W)
  case atStart => exact ⟨rfl, .inl ⟨rfl, rfl⟩⟩
  case round =>
    obtain ⟨rfl, ⟨rfl, rfl⟩ | ⟨rfl, rfl, rfl⟩ | ⟨rfl, rfl, rfl, rfl⟩⟩ := hrel
    · by_cases ha : a = 0
      · subst ha
        go_wp2_with fail
        go_roundg 1
        case rel => exact ⟨rfl, .inr (.inl ⟨rfl, rfl, rfl⟩)⟩
        case measure => omega
      · have hq : (a != 0) = true := by rw [bne_iff_ne]; exact ha
        have hr : a = n := by have := HN.out; rw [if_neg ha] at this; exact this
        subst hr
        go_wp2
        go_ret
        exact ⟨rfl, rfl⟩
    · by_cases hb : b = 0
      · subst hb
        go_wp2_with fail
        go_roundg 0
        case rel => exact ⟨rfl, .inr (.inr ⟨rfl, rfl, rfl, rfl⟩)⟩
        case measure => omega
      · have hq : (b != 0) = true := by rw [bne_iff_ne]; exact hb
        have hr : b = n := by have := HN.out; rw [if_pos rfl] at this; exact this
        subst hr
        go_wp2
        go_ret
        exact ⟨rfl, rfl⟩
    · have hr : 0 = n := by have := HN.out; rw [if_pos rfl] at this; exact this
      subst hr
      go_wp2
      go_ret
      exact ⟨rfl, rfl⟩
end Go.Proofs.YtffngbjnbigipaaGreatDoor
