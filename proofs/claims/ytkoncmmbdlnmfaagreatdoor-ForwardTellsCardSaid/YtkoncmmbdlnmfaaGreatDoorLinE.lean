/- lines.word, lines.Values: what they hand back of texts without quotes. -/
import Derived.Test.YtkoncmmbdlnmfaaGreatDoorEK2
import Derived.Test.YtkoncmmbdlnmfaaGreatDoorTSplit
import Derived.Test.YtkoncmmbdlnmfaaGreatDoorParse
namespace Go.Proofs.YtkoncmmbdlnmfaaGreatDoor
open Go.RowKit Go.Lib
set_option linter.unusedSimpArgs false
set_option linter.unusedVariables false
set_option linter.unnecessarySimpa false
set_option maxRecDepth 100000

theorem word_less {s : List UInt8} (h : (wordL s).2.2 = true) : (wordL s).2.1.length < s.length := by
  have hl := trimW_len s
  unfold wordL at h ⊢
  rcases cut_44 (trimW s) with ⟨i, h1, h2⟩ | ⟨h1, h2⟩
  · rw [h2]
    have := (List.getElem?_eq_some_iff.1 (Lib.indexByte_some h1).1).1
    simp only [List.length_drop]
    omega
  · rw [h2] at h
    cases h
theorem cut_len (s : List UInt8) : (Lib.cut s [44]).1.length ≤ s.length := by
  rcases cut_44 s with ⟨i, h1, h2⟩ | ⟨h1, h2⟩
  · rw [h2]; simp only [List.length_take]; omega
  · rw [h2]; exact Nat.le_refl _
theorem no_34 {s : List UInt8} (h : ∀ b ∈ s, b ≠ 34) : decide (0 ≤ Lib.indexByte s 34) = false := by
  rw [has_at, List.contains_eq_mem]
  simpa using fun hm => h 34 hm rfl
theorem results_tmp4 {fn : Func} {t u v x : Tmp} (h : fn.results = #[.tmp t, .tmp u, .tmp v, .tmp x]) (tmps : Array Value) (P : Program) (w : World) :
    (results fn tmps).run P w = .ok (.tuple #[tmps.getD t undef, tmps.getD u undef, tmps.getD v undef, tmps.getD x undef]) w := by
  simp [results, h]
set_option maxHeartbeats 2000000 in
theorem word_any (s : ByteArray) (hs : s.size ≤ 1000000) (hq : ∀ b ∈ s.data.toList, b ≠ 34) (w : World) (hm : Env w) :
    Calls Tryz.prog 128 #[.string s, .int .u8 44] w fun e w' => e = .returned (.tuple #[.string ⟨(wordL s.data.toList).1.toArray⟩, .string ⟨(wordL s.data.toList).2.1.toArray⟩, .bool (wordL s.data.toList).2.2, .bool (!(wordL s.data.toList).1.isEmpty)]) ∧ Below w.heap.size w w' := by
  have HT := Lib.hid (trim_any s (by omega) w)
  have hTl := trimW_len s.data.toList
  have hW : ∀ b ∈ trimW s.data.toList, b ≠ 34 := fun b hb => hq b (trimW_mem hb)
  rw [list_len] at hTl
  unfold wordL
  generalize trimW s.data.toList = T at HT hTl hW ⊢
  have hCl := cut_len T
  have HC := Lib.hid (fun (W : World) (h : Env W) => Tryz.strings_Cut ⟨T.toArray⟩ ⟨#[44]⟩ _ W (by show T.length < _; omega) h.m.choose_spec)
  have hc1 : ∀ b ∈ (Lib.cut T [44]).1, b ≠ 34 := by
    rcases cut_44 T with ⟨i, h1, h2⟩ | ⟨h1, h2⟩
    · rw [h2]; exact fun b hb => hW b (List.mem_of_mem_take hb)
    · rw [h2]; exact hW
  rw [show (⟨T.toArray⟩ : ByteArray).data.toList = T from rfl, show (⟨#[44]⟩ : ByteArray).data.toList = [44] from rfl] at HC
  generalize Lib.cut T [44] = C at HC hc1 hCl ⊢
  obtain ⟨c1, c2, c3⟩ := C
  simp only at hc1 hCl HC ⊢
  have HT2 := Lib.hid (fun W => trim_any ⟨c1.toArray⟩ (by show c1.length ≤ _; omega) W)
  rw [show (⟨c1.toArray⟩ : ByteArray).data.toList = c1 from rfl] at HT2
  have hu : ∀ b ∈ trimW c1, b ≠ 34 := fun b hb => hc1 b (trimW_mem hb)
  generalize trimW c1 = u at HT2 hu ⊢
  have HR := Lib.hid (fun W => Tryz.strings_ContainsRune_ascii ⟨u.toArray⟩ 34 W (by decide) (by decide))
  rw [show (⟨u.toArray⟩ : ByteArray).data.toList = u from rfl, show ((34 : Int).toNat.toUInt8) = (34 : UInt8) from rfl, no_34 hu] at HR
  have HM := Lib.hid hm
  clear hq hm hc1 hu
  go_enter Tryz.func128, Tryz.ntmps128
  go_wp2_with fail
  refine HT.out.mono ?_
  rintro e w1 ⟨rfl, hb1⟩
  have HB1 := Lib.hid hb1
  clear hb1
  by_cases hT : T = []
  · subst hT
    go_wp2_with fail
    rw [show Utf8.encode 44 = (⟨#[44]⟩ : ByteArray) from by decide]
    refine (HC.out _ (HM.out.below HB1.out)).mono ?_
    rintro e w2 ⟨rfl, n, hw2⟩
    have HB2 := Lib.hid (show Below w.heap.size w w2 by rw [hw2]; exact HB1.out.trans ((drewN_below w1 n).mono HB1.out.size))
    clear hw2
    go_wp2_with fail
    refine (HT2.out _).mono ?_
    rintro e w3 ⟨rfl, hb3⟩
    have HB3 := Lib.hid (HB2.out.trans (hb3.mono HB2.out.size))
    clear hb3
    by_cases hu0 : u = []
    · subst hu0
      go_wp2
      (try simp only [Exit.inBlock, Exit.then])
      refine bodyPost_ret (results_tmp4 rfl _ _ _) rfl ?_
      exact ⟨rfl, HB3.out⟩
    · obtain ⟨x, u', rfl⟩ := List.exists_cons_of_ne_nil hu0
      go_wp2_with fail
      refine (HR.out _).mono ?_
      rintro e w4 ⟨rfl, rfl⟩
      go_wp2
      (try simp only [Exit.inBlock, Exit.then])
      refine bodyPost_ret (results_tmp4 rfl _ _ _) rfl ?_
      exact ⟨rfl, HB3.out⟩
  · obtain ⟨a, T', rfl⟩ := List.exists_cons_of_ne_nil hT
    have ha : a ≠ 34 := hW a List.mem_cons_self
    have h34 : ((a.toNat : Int) == 34) = false := by
      rw [beq_eq_false_iff_ne]
      intro e
      exact ha (UInt8.toNat_inj.1 (show a.toNat = (34 : UInt8).toNat from by show a.toNat = 34; omega))
    have hs0 : (⟨(a :: T').toArray⟩ : ByteArray).size = T'.length + 1 := rfl
    have h0 : (⟨(a :: T').toArray⟩ : ByteArray)[0]'(by rw [hs0]; omega) = a := rfl
    go_wp2_with fail
    rw [show Utf8.encode 44 = (⟨#[44]⟩ : ByteArray) from by decide]
    refine (HC.out _ (HM.out.below HB1.out)).mono ?_
    rintro e w2 ⟨rfl, n, hw2⟩
    have HB2 := Lib.hid (show Below w.heap.size w w2 by rw [hw2]; exact HB1.out.trans ((drewN_below w1 n).mono HB1.out.size))
    clear hw2
    go_wp2_with fail
    refine (HT2.out _).mono ?_
    rintro e w3 ⟨rfl, hb3⟩
    have HB3 := Lib.hid (HB2.out.trans (hb3.mono HB2.out.size))
    clear hb3
    by_cases hu0 : u = []
    · subst hu0
      go_wp2
      (try simp only [Exit.inBlock, Exit.then])
      refine bodyPost_ret (results_tmp4 rfl _ _ _) rfl ?_
      exact ⟨rfl, HB3.out⟩
    · obtain ⟨x, u', rfl⟩ := List.exists_cons_of_ne_nil hu0
      go_wp2_with fail
      refine (HR.out _).mono ?_
      rintro e w4 ⟨rfl, rfl⟩
      go_wp2
      (try simp only [Exit.inBlock, Exit.then])
      refine bodyPost_ret (results_tmp4 rfl _ _ _) rfl ?_
      exact ⟨rfl, HB3.out⟩
/-- what lies in a row of one's own lies there behind a call that writes new memory alone. -/
theorem own_low {w W : World} {B e size n : Nat} {v : Value} {xs : List Value} (h : w.ownsRow B e size v n xs) (hb : Below w.heap.size w W) : W.ownsRow B e size v n xs := by
  refine ⟨h.1, ?_⟩
  rcases h.2 with hn | ⟨g, cap, cur, rfl, hg, hgg, rest⟩
  · exact .inl hn
  · refine .inr ⟨g, cap, cur, rfl, hg, ?_, rest⟩
    rw [hb.block g (Array.getElem?_eq_some_iff.1 hgg).1]
    exact hgg
theorem vals_bad {l0 : List UInt8} {done rest : List (List UInt8)} (h : (pieces 44 l0).map trimW = done ++ [] :: rest) : valsL l0 = none := by
  unfold valsL
  rw [h, if_neg]
  simp
theorem vals_good {l0 : List UInt8} {done : List (List UInt8)} (h : (pieces 44 l0).map trimW = done) (hd : ∀ x ∈ done, x ≠ []) : valsL l0 = if 16 < done.length then none else some done := by
  have hl : (pieces 44 l0).length = done.length := by rw [← h, List.length_map]
  unfold valsL
  rw [h, hl, if_pos]
  rw [List.all_eq_true]
  intro x hx
  have := hd x hx
  cases x with
  | nil => exact absurd rfl this
  | cons a b => rfl
/-- what Values hands back: the values, or none and an error. -/
def ValP (o : Option (List (List UInt8))) (e : Ending) (W : World) : Prop := match o with
  | some ws => ∃ v, e = .returned (.tuple #[v, .int .i64 0]) ∧ Row W v (ws.map strV)
  | none => ∃ c : Nat, c ≠ 0 ∧ e = .returned (.tuple #[.slice none 0 0, .int .i64 (c : Int)])
def ValRel (l0 : List UInt8) (w : World) (g : Nat) (v0 v4 v5 : Value) (W : World) : Prop :=
  ∃ (done : List (List UInt8)) (r : List UInt8), v0 = .string ⟨r.toArray⟩ ∧ (∀ b ∈ r, b ≠ 34) ∧ (∀ x ∈ done, x ≠ []) ∧ W.ownsRow w.heap.size 9 1 v4 done.length (done.map strV) ∧ Below w.heap.size w W ∧
    ((v5 = .bool true ∧ g = r.length + 1 ∧ (pieces 44 l0).map trimW = done ++ (pieces 44 r).map trimW ∧ done.length + r.length ≤ l0.length) ∨
     (v5 = .bool false ∧ g = 0 ∧ (pieces 44 l0).map trimW = done ∧ done.length ≤ l0.length + 1))
set_option maxHeartbeats 8000000 in
theorem Values_any (s : ByteArray) (hs : s.size ≤ 1000000) (hq : ∀ b ∈ s.data.toList, b ≠ 34) (hp : printL s.data.toList = true) (w : World) (hE : Env w) :
    Calls Tryz.prog 79 #[.string s] w fun e w' => ValP (valsL s.data.toList) e w' ∧ Below w.heap.size w w' := by
  have HPR := Lib.hid (printable_any s (by omega) w)
  rw [hp] at HPR
  have HE := Lib.hid hE
  have HBAD := Lib.hid (fun done rest h => vals_bad (l0 := s.data.toList) (done := done) (rest := rest) h)
  have HGOOD := Lib.hid (fun done h hd => vals_good (l0 := s.data.toList) (done := done) h hd)
  have HQ := Lib.hid hq
  clear hE hp hq
  go_enter Tryz.func79, Tryz.ntmps79
  go_wp2_with fail
  refine HPR.out.mono ?_
  rintro e w1 ⟨rfl, hb1⟩
  have HB1 := Lib.hid hb1
  clear hb1
  go_wp2_with fail
  go_loopg [0, 4, 5] (s.size + 1) (fun g v0 v4 v5 W => ValRel s.data.toList w g v0 v4 v5 W)
  case atStart => exact ⟨[], s.data.toList, rfl, HQ.out, (fun x hx => by cases hx), World.ownsRow_nil _ _ _ _, HB1.out, .inl ⟨rfl, by rw [list_len], rfl, by simp⟩⟩
  case round =>
    obtain ⟨done, r, rfl, hq, hd, hown, hb, ⟨rfl, hg, hps, hl⟩ | ⟨rfl, hg, hps, hl⟩⟩ := hrel
    · have HG := Lib.hid hg
      have HPS := Lib.hid hps
      have HD := Lib.hid hd
      have HB := Lib.hid hb
      have hstep := word_step r
      have hnq := word_noq hq
      have hless := word_less (s := r)
      have hls : r.length ≤ s.size := by rw [list_len] at hl; omega
      have hdl : done.length ≤ s.size := by rw [list_len] at hl; omega
      have HW := Lib.hid (word_any ⟨r.toArray⟩ (by show r.length ≤ _; omega) hq wr (HE.out.below HB.out))
      rw [show (⟨r.toArray⟩ : ByteArray).data.toList = r from rfl] at HW
      generalize wordL r = WL at HW hstep hnq hless
      obtain ⟨x, r', en⟩ := WL
      simp only at HW hstep hnq hless
      rw [list_len] at hl
      have HL := Lib.hid hl
      clear hg hps hd hb hq hl
      by_cases hx : x = []
      · subst hx
        have hN : valsL s.data.toList = none := by
          cases en with
          | true =>
            rw [if_pos rfl] at hstep
            exact HBAD.out _ _ (by rw [HPS.out, hstep])
          | false =>
            rw [if_neg (by simp)] at hstep
            exact HBAD.out _ _ (by rw [HPS.out, hstep])
        have HN := Lib.hid hN
        clear hN hstep hnq hless hown
        go_wp2_with fail
        refine HW.out.mono ?_
        rintro e w2 ⟨rfl, hb2⟩
        go_wp2
        go_ret2
        exact ⟨by rw [HN.out]; exact ⟨5, by decide, rfl⟩, HB.out.trans (hb2.mono HB.out.size)⟩
      · have hie : x.isEmpty = false := by cases x with
          | nil => exact absurd rfl hx
          | cons a b => rfl
        rw [hie] at HW
        have HNQ := Lib.hid hnq
        have HLE := Lib.hid hless
        have HX := Lib.hid hx
        have HST := Lib.hid hstep
        have HOW := Lib.hid hown
        clear hie hnq hless hx hstep hown
        go_wp2_with fail
        refine HW.out.mono ?_
        rintro e w2 ⟨rfl, hb2⟩
        have HB2 := Lib.hid (HB.out.trans (hb2.mono HB.out.size))
        have hown2 := own_low HOW.out hb2
        have hbs := HB2.out.size
        clear hb2
        cases en with
        | true =>
          have hst := HST.out
          rw [if_pos rfl] at hst
          have HST2 := Lib.hid hst
          clear hst
          go_wp2_with (first | (at_builtin; refine app_str rfl _ _ rfl w.heap.size _ _ _ rfl (World.ownsRow.alloc (w := w2) hown2 _) ⟨w2.heap.size, 0, none⟩ 1 (.string ⟨x.toArray⟩) rfl (new_cell _ _ _) rfl (by omega) (by rw [World.size_alloc]; exact Nat.le_succ_of_le hbs) ?_; intro g' cap w3 hown3 hgr) | fail)
          go_roundg (r'.length + 1)
          case rel =>
            refine ⟨done ++ [x], r', rfl, HNQ.out.2.1, ?_, ?_, ?_, .inl ⟨rfl, rfl, ?_, ?_⟩⟩
            · intro y hy
              rcases List.mem_append.1 hy with hy | hy
              · exact HD.out y hy
              · obtain rfl := List.mem_singleton.1 hy
                exact HX.out
            · rw [List.length_append, List.map_append]
              exact hown3
            · exact (HB2.out.alloc hbs _).grown hgr (by rw [World.size_alloc]; exact Nat.le_succ_of_le hbs) (own_base hown2)
            · rw [HPS.out, HST2.out, List.append_assoc]; rfl
            · have h1 := HLE.out trivial
              have h2 := HL.out
              rw [list_len, List.length_append, List.length_singleton]
              omega
          case measure => have h1 := HG.out; have h2 := HLE.out trivial; omega
        | false =>
          have hst := HST.out
          rw [if_neg (by simp)] at hst
          have HST2 := Lib.hid hst
          clear hst
          go_wp2_with (first | (at_builtin; refine app_str rfl _ _ rfl w.heap.size _ _ _ rfl (World.ownsRow.alloc (w := w2) hown2 _) ⟨w2.heap.size, 0, none⟩ 1 (.string ⟨x.toArray⟩) rfl (new_cell _ _ _) rfl (by omega) (by rw [World.size_alloc]; exact Nat.le_succ_of_le hbs) ?_; intro g' cap w3 hown3 hgr) | fail)
          go_roundg 0
          case rel =>
            refine ⟨done ++ [x], r', rfl, HNQ.out.2.1, ?_, ?_, ?_, .inr ⟨rfl, rfl, ?_, ?_⟩⟩
            · intro y hy
              rcases List.mem_append.1 hy with hy | hy
              · exact HD.out y hy
              · obtain rfl := List.mem_singleton.1 hy
                exact HX.out
            · rw [List.length_append, List.map_append]
              exact hown3
            · exact (HB2.out.alloc hbs _).grown hgr (by rw [World.size_alloc]; exact Nat.le_succ_of_le hbs) (own_base hown2)
            · rw [HPS.out, HST2.out]
            · have h2 := HL.out
              rw [list_len, List.length_append, List.length_singleton]
              omega
          case measure => have h1 := HG.out; omega
    · have HB := Lib.hid hb
      have hv := HGOOD.out _ hps hd
      have hrow := Row.of_owns hown
      have HR := Lib.hid hrow
      have hl2 : done.length ≤ s.size + 1 := by rw [list_len] at hl; exact hl
      obtain ⟨p, cap, hv4, -⟩ := hrow
      rw [List.length_map] at hv4
      subst hv4
      by_cases h16 : 16 < done.length
      · rw [if_pos h16] at hv
        have HV := Lib.hid hv
        have hi : (16 : Int) < (done.length : Int) := by omega
        clear hv hps hd hown hg
        go_wp2
        go_ret2
        exact ⟨by rw [HV.out]; exact ⟨7, by decide, rfl⟩, HB.out⟩
      · rw [if_neg h16] at hv
        have HV := Lib.hid hv
        have hi : ¬ (16 : Int) < (done.length : Int) := by omega
        clear hv hps hd hown hg
        go_wp2
        go_ret2
        exact ⟨by rw [HV.out]; exact ⟨_, rfl, HR.out⟩, HB.out⟩
end Go.Proofs.YtkoncmmbdlnmfaaGreatDoor
