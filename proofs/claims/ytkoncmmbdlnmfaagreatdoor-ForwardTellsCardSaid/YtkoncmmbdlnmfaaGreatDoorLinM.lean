/- forward.Parse: what it hands back. -/
import Derived.Test.YtkoncmmbdlnmfaaGreatDoorLinL
namespace Go.Proofs.YtkoncmmbdlnmfaaGreatDoor
open Go.RowKit Go.Lib
set_option linter.unusedSimpArgs false
set_option linter.unusedVariables false
set_option linter.unnecessarySimpa false
set_option maxRecDepth 100000

theorem own_lt' {w : World} {B e k n : Nat} {v : Value} {xs : List Value} (h : w.ownsRow B e k v n xs) : ∀ g, v.ownBlock = some g → g < w.heap.size := by
  obtain ⟨_, ⟨rfl, h0⟩ | ⟨g, cap, cur, rfl, hBg, hg, hcap, _⟩⟩ := h
  · intro g hg; simp [Value.ownBlock] at hg
  · intro g' hg'
    simp only [Value.ownBlock, Option.some.injEq] at hg'
    subst hg'
    exact (Array.getElem?_eq_some_iff.1 hg).1
/-- the targets told so far, all that were read, and the map that counts them. -/
structure FAt (mb : Nat) (w3 : World) (out ts : List Tg) (v8 : Value) (W : World) : Prop where
  o : W.ownsRow w3.heap.size 28 4 v8 out.length ((out.map up).flatMap tiC)
  m : ∃ D : DataW Unit, W.ownsMap Tryz.prog 28 (plainElem Tryz.prog 3) mb ts.length D ∧ CntD D ts
  s : Save mb w3 W
  e : ∀ t, t ∈ out ↔ t ∈ ts
  z : out.length ≤ ts.length
theorem FAt.below {mb : Nat} {w3 : World} {out ts : List Tg} {v8 : Value} {w W : World} (h : FAt mb w3 out ts v8 w) (hb : Below w.heap.size w W) : FAt mb w3 out ts v8 W := by
  obtain ⟨h1, ⟨D, h2, h3⟩, h4, h5, h6⟩ := h
  exact ⟨own_low h1 hb, ⟨D, map_low h2 hb, h3⟩, h4.below hb, h5, h6⟩
theorem sep_new {mb : Nat} {w3 : World} {out ts : List Tg} {v8 vl : Value} {W : World} (h : FAt mb w3 out ts v8 W) (hn : ∀ g, vl.ownBlock = some g → W.heap.size ≤ g) : ∀ g, v8.ownBlock = some g → vl.ownBlock ≠ some g := fun g hg e => by
  have h1 := own_lt' h.o g hg
  have h2 := hn g e
  omega
theorem GRow.lt {α : Type} {k : Nat} {C : α → List Value} {w : World} {v : Value} {l : List α} (h : GRow k C w v l) (hne : l ≠ []) : ∀ g, v.ownBlock = some g → g < w.heap.size := by
  intro g hg
  obtain ⟨p, cap, rfl, h | ⟨b, o, rfl, hlt, _⟩⟩ := h
  · exact absurd h hne
  · simp only [Value.ownBlock, Option.some.injEq] at hg
    omega
theorem not_mb {w3 w : World} {e k n mb : Nat} {v : Value} {xs : List Value} (h : w.ownsRow w3.heap.size e k v n xs) (hmb : mb < w3.heap.size) : v.ownBlock = none ∨ v.ownBlock ≠ some mb := by
  cases hv : v.ownBlock with
  | none => exact .inl rfl
  | some g => exact .inr (fun e => by injection e with e; subst e; have := own_ge h g hv; omega)
theorem FAt.old {mb : Nat} {w3 : World} {out ts : List Tg} {v8 : Value} {w W : World} (h : FAt mb w3 out ts v8 w) (hmb : mb < w3.heap.size) {D : DataW Unit} (hD : Maps.IsMap D) (hcnt : CntD D ts) {t : Tg} {kl : Lit} (hk : keyOf Tryz.prog 28 (tgV t) = some kl)
    (hown : W.ownsMap Tryz.prog 28 (plainElem Tryz.prog 3) mb (ts.length + 1) (D.put kl (.lit (.int .i64 ((ts.count t : Int) + 1))))) (hg : w.grownBy W (some mb)) (hin : t ∈ ts) : FAt mb w3 out (ts ++ [t]) v8 W := by
  refine ⟨h.o.kept hg (not_mb h.o hmb), ⟨_, by rw [List.length_append]; exact hown, hcnt.put hD hk⟩, h.s.grown hg (fun g e => by injection e with e; exact .inl e.symm), fun x => ?_, by rw [List.length_append]; exact Nat.le_trans h.z (Nat.le_add_right _ _)⟩
  rw [h.e x, List.mem_append, List.mem_singleton]
  constructor
  · exact .inl
  · rintro (hx | rfl)
    · exact hx
    · exact hin
theorem FAt.new {mb : Nat} {w3 : World} {out ts : List Tg} {v8 : Value} {w W W' : World} (h : FAt mb w3 out ts v8 w) (hmb : mb < w3.heap.size) {D : DataW Unit} (hD : Maps.IsMap D) (hcnt : CntD D ts) {t : Tg} {kl : Lit} (hk : keyOf Tryz.prog 28 (tgV t) = some kl)
    (hown : W.ownsMap Tryz.prog 28 (plainElem Tryz.prog 3) mb (ts.length + 1) (D.put kl (.lit (.int .i64 ((ts.count t : Int) + 1))))) (hg : w.grownBy W (some mb)) {o : Obj} {g cap : Nat}
    (hrow : W'.ownsRow w3.heap.size 28 4 (.slice (some ⟨g, 0, none⟩) (out.length + 1) cap) (out.length + 1) ((out.map up).flatMap tiC ++ tiC (up t))) (hg' : (W.alloc o).grownBy W' v8.ownBlock) : FAt mb w3 (out ++ [t]) (ts ++ [t]) (.slice (some ⟨g, 0, none⟩) (out.length + 1) cap) W' := by
  have hge := own_ge h.o
  refine ⟨by rw [List.length_append, List.map_append, List.map_cons, List.map_nil, flat_snoc]; exact hrow, ⟨_, by rw [List.length_append]; exact (hown.alloc o).kept hg' (fun e => by have := hge mb e.symm; omega), hcnt.put hD hk⟩, ((h.s.grown hg (fun g e => by injection e with e; exact .inl e.symm)).below (alloc_below W o)).grown hg' (fun g e => .inr (hge g e)), fun x => ?_, by rw [List.length_append, List.length_append]; exact Nat.add_le_add_right h.z _⟩
  rw [List.mem_append, List.mem_append, h.e x]
theorem Four4.grown {B : Nat} {x y z u : Value} {w W : World} {row : Option Nat} (h : Four4 B x y z u w) (hg : w.grownBy W row) (hr : some B ≠ row) : Four4 B x y z u W := by
  have hh := hg.block B h.c.lt hr
  exact ⟨⟨Nat.lt_of_lt_of_le h.c.lt hg.size, (World.cell?_of_block (w := w) hh).trans h.c.c0, (World.cell?_of_block (w := w) hh).trans h.c.c1, (World.cell?_of_block (w := w) hh).trans h.c.c2, (World.cell?_of_block (w := w) hh).trans h.c.c3⟩,
    (World.frozen?_of_block (w := w) hh).trans h.f0, (World.frozen?_of_block (w := w) hh).trans h.f1, (World.frozen?_of_block (w := w) hh).trans h.f2, (World.frozen?_of_block (w := w) hh).trans h.f3⟩
theorem Four4.put0 {B : Nat} {x y z u : Value} {W : World} (h : Four4 B x y z u W) (d : Value) : Four4 B d y z u (W.setCell ⟨B, 0, none⟩ d) := by
  refine ⟨⟨by simpa [World.setCell] using h.c.lt, set_same W ⟨B, 0, none⟩ _ d h.c.c0, ?_, ?_, ?_⟩, ?_, ?_, ?_, ?_⟩
  · rw [cell_off _ B 0 1 d (by decide)]; exact h.c.c1
  · rw [cell_off _ B 0 2 d (by decide)]; exact h.c.c2
  · rw [cell_off _ B 0 3 d (by decide)]; exact h.c.c3
  · simp only [World.frozen?_setCell]; exact h.f0
  · simp only [World.frozen?_setCell]; exact h.f1
  · simp only [World.frozen?_setCell]; exact h.f2
  · simp only [World.frozen?_setCell]; exact h.f3
/-- a store into a block that is no one's leaves all. -/
theorem set_grows (w : World) (B o : Nat) (u : Value) : w.grownBy (w.setCell ⟨B, o, none⟩ u) (some B) := by
  refine ⟨rfl, rfl, rfl, by simp [World.setCell], fun k _ hk => ?_⟩
  have hne : B ≠ k := fun e => hk (by rw [e])
  show (w.heap.modify B _)[k]? = _
  rw [Array.getElem?_modify, if_neg hne]
theorem FAt.other {mb : Nat} {w3 : World} {out ts : List Tg} {v8 : Value} {w W : World} (h : FAt mb w3 out ts v8 w) {B : Nat} (hg : w.grownBy W (some B)) (hB : w3.heap.size ≤ B) (hmb : mb < w3.heap.size) (hv : v8.ownBlock ≠ some B) : FAt mb w3 out ts v8 W := by
  obtain ⟨D, h1, h2⟩ := h.m
  exact ⟨h.o.kept hg (.inr hv), ⟨D, h1.kept hg (fun e => by injection e with e; omega), h2⟩, h.s.grown hg (fun g e => by injection e with e; subst e; exact .inr hB), h.e, h.z⟩
def OutRel (user : List UInt8) (es : List (Nat × List UInt8)) (R : Option (List Tg)) (mb : Nat) (w3 : World) (g : Nat) (v8 v9 v27 : Value) (W : World) : Prop :=
  ∃ (i : Nat) (out ts : List Tg), v27 = .int .i64 (i : Int) ∧ i ≤ es.length ∧ g = es.length - i ∧ v9 = .int .i64 (ts.length : Int) ∧ ts.length ≤ 16 ∧ fwdGo user ((es.map (·.2)).drop i) ts.length out = R ∧ FAt mb w3 out ts v8 W
def InRel (user : List UInt8) (l out ts : List Tg) (mb : Nat) (w3 : World) (vl : Value) (g : Nat) (v8 v49 : Value) (W : World) : Prop :=
  ∃ j : Nat, v49 = .int .i64 (j : Int) ∧ j ≤ l.length ∧ g = l.length - j ∧ FAt mb w3 (addAll user out (l.take j)) (ts ++ (l.take j).map (ownT user)) v8 W ∧ TRow W vl l ∧ (∀ g, v8.ownBlock = some g → vl.ownBlock ≠ some g)
/-- a slice's length lies within its capacity. -/
def CapOk (v : Value) : Prop := match v with | .slice _ n c => n ≤ c | _ => True
theorem own_cap {w : World} {B e k n : Nat} {v : Value} {xs : List Value} (h : w.ownsRow B e k v n xs) : CapOk v := by
  obtain ⟨_, ⟨rfl, rfl⟩ | ⟨g', cap', cur, rfl, _, _, hc, _⟩⟩ := h
  · exact Nat.le_refl _
  · exact hc
set_option maxHeartbeats 16000000 in
theorem Parse_fwd (us s : ByteArray) (hu : us.size ≤ 100000) (hs : s.size ≤ 8192) (w : World) (hE : Env w) (hB : Begs w) :
    Calls Tryz.prog 10 #[.string us, .string s] w fun e w' => ∃ v, e = .returned (.tuple #[v, .bool (!(fwdL us.data.toList s.data.toList).isEmpty)]) ∧ TRow w' v (fwdL us.data.toList s.data.toList) ∧ CapOk v ∧ Below w.heap.size w w' := by
  have hmm := @run_makeMap Tryz.prog
  have HLN := Lib.hid (Lines_any s hs w hE)
  have hlf := lines_facts (s := s.data.toList) (by rw [list_len]; exact hs)
  have hF : fwdL us.data.toList s.data.toList = if ((linesL s.data.toList).2.any fun f => f.2 != 9) = true then [] else match fwdGo us.data.toList ((linesL s.data.toList).1.map (·.2)) 0 [] with | none => [] | some out => out := rfl
  generalize fwdL us.data.toList s.data.toList = F at hF ⊢
  generalize linesL s.data.toList = LL at HLN hlf hF
  obtain ⟨es, fs⟩ := LL
  simp only at HLN hlf hF
  obtain ⟨hes, hel, hfl⟩ := hlf
  have HF := Lib.hid hF
  have HE := Lib.hid hE
  have HB := Lib.hid hB
  have HES := Lib.hid hes
  clear hF hE hB hes
  go_enter Tryz.func10, Tryz.ntmps10
  go_wp2_with fail
  refine HLN.out.mono ?_
  rintro e w1 ⟨v1, v2, rfl, hr1, hr2, hb1⟩
  have HR1 := Lib.hid hr1
  have HB1 := Lib.hid hb1
  have HCF := Lib.hid (ContF fs v2 w1 hr2 (by omega))
  obtain ⟨p, cap, rfl, -⟩ := hr1
  clear hb1 hr2
  go_wp2_with fail
  refine HCF.out.mono ?_
  rintro e w2 ⟨rfl, hb2⟩
  have HR2 := Lib.hid (HR1.out.below hb2)
  have HB2 := Lib.hid (HB1.out.trans (hb2.mono HB1.out.size))
  clear hb2
  cases hM : (fs.any fun a => a.2 != 9) with
  | true =>
    have hF := HF.out
    rw [hM, if_pos rfl] at hF
    subst hF
    clear hM
    go_wp2
    go_ret2
    exact ⟨_, rfl, ⟨none, 0, rfl, .inl rfl⟩, Nat.le_refl _, HB2.out⟩
  | false =>
    have hF := HF.out
    rw [hM, if_neg (by simp)] at hF
    have HF2 := Lib.hid hF
    have hb3 := alloc_below w2 (.map #[] 0)
    have HM0 := Lib.hid (World.ownsMap_made (H := Unit) w2 Tryz.prog 28 (plainElem Tryz.prog 3))
    have HB3 := Lib.hid (HB2.out.trans (hb3.mono HB2.out.size))
    have HR3 := Lib.hid (HR2.out.below hb3)
    have HE3 := Lib.hid (HE.out.below HB3.out)
    have HG3 := Lib.hid (HB.out.below HB3.out)
    have hz3 : w2.heap.size < (w2.alloc (.map #[] 0)).heap.size := HM0.out.lt
    obtain ⟨R, hR⟩ : ∃ R, fwdGo us.data.toList (es.map (·.2)) 0 [] = R := ⟨_, rfl⟩
    have hF2 := HF2.out
    rw [hR] at hF2
    have HR := Lib.hid hR
    have HFR := Lib.hid hF2
    clear hb3 hF hM hR hF2 HF2
    generalize hw3 : w2.alloc (.map #[] 0) = w3 at *
    go_wp2_with fail
    go_loopg [8, 9, 27] es.length (fun g v8 v9 v27 W => OutRel us.data.toList es R w2.heap.size w3 g v8 v9 v27 W)
    case atStart => exact ⟨0, [], [], rfl, Nat.zero_le _, rfl, rfl, Nat.zero_le _, HR.out, ⟨World.ownsRow_nil _ _ _ _, ⟨_, HM0.out, CntD.start⟩, Save.refl _ _, fun t => Iff.rfl, Nat.le_refl _⟩⟩
    case round =>
      obtain ⟨i, out, ts, rfl, hi, hg, rfl, hts, hfg, hat⟩ := hrel
      have HG := Lib.hid hg
      have HFG := Lib.hid hfg
      have HAT := Lib.hid hat
      clear hg hfg hat
      by_cases hlt : i < es.length
      · have hi0 : (0 : Int) ≤ (i : Int) := by omega
        have hi1 : (i : Int) < (es.length : Int) := by omega
        have hwk : IntKind.i64.wrap ((i : Int) + 1) = (i : Int) + 1 := by rw [IntKind.wrap_i64]; omega
        have hx := List.getElem?_eq_getElem hlt
        obtain ⟨X, hX⟩ : ∃ X, es[i] = X := ⟨_, rfl⟩
        rw [hX] at hx
        have hXf := HES.out X (by rw [← hX]; exact List.getElem_mem hlt)
        have hfg := HFG.out
        rw [List.drop_eq_getElem_cons (by rw [List.length_map]; exact hlt), List.getElem_map, hX, fwd_step] at hfg
        have HFG2 := Lib.hid hfg
        have hr := Save.grow (k := 3) (C := enC) (fun _ => by simp [enC]) HR3.out HAT.out.s (map_cells HM0.out)
        obtain ⟨p', cap', he, h⟩ := hr
        obtain rfl : cap = cap' := by injection he
        obtain rfl : p = p' := by injection he
        obtain ⟨b, o, hpb, hc⟩ := grow_at h hlt
        subst hpb
        clear he h
        have c0 := hc i X hx 0 _ rfl
        have c1 := hc i X hx 1 _ rfl
        have c2 := hc i X hx 2 _ rfl
        rw [Nat.add_zero] at c0
        clear hc hX hx hfg
        obtain ⟨ln, key⟩ := X
        simp only at hXf c0 c1 c2 HFG2
        obtain ⟨hpk, hqk, hlk⟩ := hXf
        have hbw := HAT.out.s.low (B := w2.heap.size) (Nat.le_refl _) (Nat.le_of_lt hz3)
        have hz2 := HAT.out.s.size
        have HA1 := Lib.hid (HAT.out.below (alloc_below wr (.cells #[.int .i64 (ln : Int), .string ⟨key.toArray⟩, .slice none 0 0] 85)))
        have hE1 : Env (wr.alloc (.cells #[.int .i64 (ln : Int), .string ⟨key.toArray⟩, .slice none 0 0] 85)) := (HE.out.below (HB3.out.trans (hbw.mono HB2.out.size))).below (alloc_below wr _)
        have hG1 : Begs (wr.alloc (.cells #[.int .i64 (ln : Int), .string ⟨key.toArray⟩, .slice none 0 0] 85)) := (HB.out.below (HB3.out.trans (hbw.mono HB2.out.size))).below (alloc_below wr _)
        have HSD := Lib.hid (said_any ⟨key.toArray⟩ (by show key.length ≤ _; omega) (fun b hb e => by
          subst e
          rw [List.contains_eq_mem] at hqk
          simp at hqk
          exact hqk hb) hpk _ hE1 hG1)
        have hsh := fun l (h : saidL key = some l) => said_short h hqk (by omega)
        rw [show (⟨key.toArray⟩ : ByteArray).data.toList = key from rfl] at HSD
        obtain ⟨SD, hSD⟩ : ∃ SD, saidL key = SD := ⟨_, rfl⟩
        rw [hSD] at HSD HFG2
        have HSH := Lib.hid (fun l (h : SD = some l) => hsh l (hSD.trans h))
        clear hSD hpk hqk hlk hE1 hG1 hbw hsh
        go_wp2_with fail
        refine HSD.out.mono ?_
        rintro e w5 ⟨hsay, hb5⟩
        have HA5 := Lib.hid (HA1.out.below hb5)
        cases SD with
        | none =>
          obtain rfl : R = none := HFG2.out.symm
          obtain rfl : F = [] := HFR.out
          obtain rfl := hsay
          have HBF := Lib.hid (HB3.out.trans ((HA5.out.s.low (B := w2.heap.size) (Nat.le_refl _) (Nat.le_of_lt hz3)).mono HB2.out.size))
          clear hb5
          go_wp2
          go_ret2
          exact ⟨_, rfl, ⟨none, 0, rfl, .inl rfl⟩, Nat.le_refl _, HBF.out⟩
        | some l =>
          obtain ⟨vl, rfl, hrl, hnew⟩ := hsay
          have HRL := Lib.hid hrl
          obtain ⟨hl16, hlsh⟩ := HSH.out l rfl
          have HLS := Lib.hid hlsh
          have hsep := sep_new HA1.out hnew
          have HSEP := Lib.hid hsep
          have HNEW := Lib.hid (fun g (e : vl.ownBlock = some g) => Nat.le_trans HA1.out.s.size (hnew g e))
          obtain ⟨pl, capl, rfl, -⟩ := hrl
          have hrl3 := HRL.out
          have hsep3 := HSEP.out
          have hnew3 := HNEW.out
          rw [List.length_map] at hrl3
          simp only [List.length_map] at hsep3 hnew3
          have HRL := Lib.hid hrl3
          have HSEP := Lib.hid hsep3
          have HNEW := Lib.hid hnew3
          rw [List.length_map]
          have hwm : IntKind.i64.wrap ((ts.length : Int) + (l.length : Int)) = (ts.length : Int) + (l.length : Int) := by rw [IntKind.wrap_i64]; omega
          have hfg := HFG2.out
          simp only at hfg
          clear hb5 hsep hnew hlsh hrl3 hsep3 hnew3
          by_cases h16 : 16 < ts.length + l.length
          · have h16i : (16 : Int) < (ts.length : Int) + (l.length : Int) := by omega
            rw [if_pos h16] at hfg
            obtain rfl : R = none := hfg.symm
            obtain rfl : F = [] := HFR.out
            have HBF := Lib.hid (HB3.out.trans ((HA5.out.s.low (B := w2.heap.size) (Nat.le_refl _) (Nat.le_of_lt hz3)).mono HB2.out.size))
            go_wp2
            go_ret2
            exact ⟨_, rfl, ⟨none, 0, rfl, .inl rfl⟩, Nat.le_refl _, HBF.out⟩
          · have h16i : ¬ (16 : Int) < (ts.length : Int) + (l.length : Int) := by omega
            rw [if_neg h16] at hfg
            have HFG3 := Lib.hid hfg
            clear hfg
            go_wp2_with fail
            go_loopg [8, 49] l.length (fun g v8 v49 W => InRel us.data.toList l out ts w2.heap.size w3 (.slice pl l.length capl) g v8 v49 W)
            case atStart =>
              refine ⟨0, rfl, Nat.zero_le _, rfl, ?_, HRL.out, HSEP.out⟩
              rw [List.take_zero, List.map_nil, List.append_nil]
              exact HA5.out
            case round =>
              obtain ⟨j, rfl, hj, hg2, hat2, hrl2, hsep2⟩ := hrel
              have HG2 := Lib.hid hg2
              have HAT2 := Lib.hid hat2
              have HRL2 := Lib.hid hrl2
              have HSEP2 := Lib.hid hsep2
              obtain ⟨out', hout'⟩ : ∃ out', addAll us.data.toList out (l.take j) = out' := ⟨_, rfl⟩
              obtain ⟨ts', hts'⟩ : ∃ ts', ts ++ (l.take j).map (ownT us.data.toList) = ts' := ⟨_, rfl⟩
              have HL16 := Lib.hid (show ts'.length ≤ 16 by rw [← hts', List.length_append, List.length_map, List.length_take]; omega)
              rw [hout', hts'] at HAT2
              have HOUT := Lib.hid hout'
              have HTS2 := Lib.hid hts'
              clear hg2 hat2 hrl2 hsep2 hout' hts'
              by_cases hlj : j < l.length
              · have hj0 : (0 : Int) ≤ (j : Int) := by omega
                have hj1 : (j : Int) < (l.length : Int) := by omega
                have hwj : IntKind.i64.wrap ((j : Int) + 1) = (j : Int) + 1 := by rw [IntKind.wrap_i64]; omega
                have hx := List.getElem?_eq_getElem hlj
                obtain ⟨T, hT⟩ : ∃ T, l[j] = T := ⟨_, rfl⟩
                rw [hT] at hx
                have hTs := HLS.out T (by rw [← hT]; exact List.getElem_mem hlj)
                have HTK := Lib.hid (show l.take (j + 1) = l.take j ++ [T] by rw [List.take_add_one, hx]; rfl)
                have hxu : (l.map up)[j]? = some (up T) := by rw [List.getElem?_map, hx]; rfl
                obtain ⟨p', cap', he, h⟩ := HRL2.out
                obtain rfl : capl = cap' := by injection he
                obtain rfl : pl = p' := by injection he
                obtain ⟨b, o, hpb, hc⟩ := grow_at h (by rw [List.length_map]; exact hlj)
                subst hpb
                clear he h
                obtain ⟨k, ⟨a, b'⟩, n⟩ := T
                have d0 := hc j _ hxu 0 (.int .i64 (k : Int)) rfl
                have d1 := hc j _ hxu 1 (.string ⟨a.toArray⟩) rfl
                have d2 := hc j _ hxu 2 (.string ⟨b'.toArray⟩) rfl
                have d3 := hc j _ hxu 3 (.string ⟨n.toArray⟩) rfl
                rw [Nat.add_zero] at d0
                clear hc hx hxu hT
                have HF1 := Lib.hid (Four4.made wr (.int .i64 (k : Int)) (.string ⟨a.toArray⟩) (.string ⟨b'.toArray⟩) (.string ⟨n.toArray⟩) 28)
                have HAA := Lib.hid (HAT2.out.below (alloc_below wr (.cells #[.int .i64 (k : Int), .string ⟨a.toArray⟩, .string ⟨b'.toArray⟩, .string ⟨n.toArray⟩] 28)))
                have HRR := Lib.hid (HRL2.out.below (alloc_below wr (.cells #[.int .i64 (k : Int), .string ⟨a.toArray⟩, .string ⟨b'.toArray⟩, .string ⟨n.toArray⟩] 28)))
                have HV8 := Lib.hid (own_lt' HAT2.out.o)
                have hszw := HAT2.out.s.size
                by_cases hk2 : k = 2
                · subst hk2
                  have HLOW := Lib.hid (fun W => Lower_any us (by omega) W)
                  have hown : ownT us.data.toList (2, (a, b'), n) = if n = lowL us.data.toList then (3, (a, b'), n) else (2, (a, b'), n) := by
                    unfold ownT
                    by_cases hn : n = lowL us.data.toList
                    · rw [if_pos ⟨rfl, hn⟩, if_pos hn]
                    · rw [if_neg (fun e => hn e.2), if_neg hn]
                  obtain ⟨lu, hlu⟩ : ∃ lu, lowL us.data.toList = lu := ⟨_, rfl⟩
                  rw [hlu] at HLOW hown
                  have HOWN := Lib.hid hown
                  clear hown hlu
                  have HB16 := Lib.hid HF1.out.c.lt
                  have HLTL := Lib.hid (HRL2.out.lt (fun e => by rw [List.map_eq_nil_iff] at e; rw [e] at hlj; exact absurd hlj (Nat.not_lt_zero _)))
                  obtain ⟨wy, hwy⟩ : ∃ wy, wr.alloc (.cells #[.int .i64 2, .string ⟨a.toArray⟩, .string ⟨b'.toArray⟩, .string ⟨n.toArray⟩] 28) = wy := ⟨_, rfl⟩
                  have hwy2 : wr.alloc (.cells #[.int .i64 ((2 : Nat) : Int), .string ⟨a.toArray⟩, .string ⟨b'.toArray⟩, .string ⟨n.toArray⟩] 28) = wy := hwy
                  rw [hwy2] at HF1 HAA HRR HB16
                  clear hwy2
                  have HKS := Lib.hid (fun W (hb : Below wy.heap.size wy W) => show W.cell? ⟨wr.heap.size, 0, none⟩ = some (.int .i64 2) ∧ W.cell? ⟨wr.heap.size, 1, none⟩ = some (.string ⟨a.toArray⟩) ∧ W.cell? ⟨wr.heap.size, 2, none⟩ = some (.string ⟨b'.toArray⟩) ∧ W.cell? ⟨wr.heap.size, 3, none⟩ = some (.string ⟨n.toArray⟩) from have h := (HF1.out.below hb).c; ⟨h.c0, h.c1, h.c2, h.c3⟩)
                  obtain ⟨e0, e1, e2, e3⟩ := HKS.out _ (Below.refl _ wy)
                  have hbd := drew_below wy
                  have hS := HKS.out _ hbd
                  by_cases hn : n = lu
                  · subst hn
                    go_wp2_with fail
                    clear d0 d1 d2 d3 e0 e1 e2 e3
                    go_region_held3 (fun W => W.cell? ⟨wr.heap.size, 0, none⟩ = some (.int .i64 2) ∧ W.cell? ⟨wr.heap.size, 1, none⟩ = some (.string ⟨a.toArray⟩) ∧ W.cell? ⟨wr.heap.size, 2, none⟩ = some (.string ⟨b'.toArray⟩) ∧ W.cell? ⟨wr.heap.size, 3, none⟩ = some (.string ⟨n.toArray⟩))
                      (first | exact hS | exact hS7 | go_keep)
                      (first | ((with_reducible refine (HLOW.out _).mono ?_); rintro e w9 ⟨rfl, hb9⟩; have hbd9 := hbd.trans (hb9.mono hbd.size); clear hbd hb9; have hbd := hbd9; clear hbd9; have hS7 := HKS.out _ hbd))
                    have HF9 := Lib.hid (HF1.out.below hbd)
                    have HA9 := Lib.hid (HAA.out.below hbd)
                    have HR9 := Lib.hid (HRR.out.below hbd)
                    clear hbd hS hS7
                    obtain ⟨⟨-, e0, e1, e2, e3⟩, g0, g1, g2, g3⟩ := HF9.out
                    have hgs := set_grows w9 wr.heap.size 0 (.int .i64 3)
                    have HFX := Lib.hid (HF9.out.put0 (.int .i64 3))
                    have HAX := Lib.hid (HA9.out.other hgs hszw hz3 (fun e => by have := HV8.out _ e; omega))
                    have HRX := Lib.hid (HR9.out.grown hgs (fun g e1 e2 => by injection e2 with e2; have := HLTL.out g e1; omega))
                    have hself : ownT us.data.toList (2, (a, b'), n) = (3, (a, b'), n) := by simpa using HOWN.out
                    have HSELF := Lib.hid hself
                    have HSHT := Lib.hid (show ShortT (3, (a, b'), n) from ⟨by show (3 : Nat) ≤ 1000; omega, hTs.2⟩)
                    have HSZB := Lib.hid (show w2.heap.size < wr.heap.size by omega)
                    clear hself hgs hTs
                    go_wp2_with fail
                    clear e0 e1 e2 e3 g0 g1 g2 g3
                    generalize hwx : w9.setCell ⟨wr.heap.size, 0, none⟩ (.int .i64 3) = wx at *
                    obtain ⟨D, hmm1, hcn⟩ := HAX.out.m
                    obtain ⟨kl, hkl⟩ := key_ok HSHT.out
                    have hB16 := HL16.out
                    obtain ⟨c, st, w6, hat, hl1, hme, hl2, hg6, hst⟩ := entry_law hmm1.drew law28 Tryz.underlying83 Tryz.underlying3 (fun W => zero3 W) (by unfold maxLen; omega) hkl
                    rw [hcn _ _ hkl] at hat
                    have hcc := (Lit.int.inj (DataW.lit.inj hat)).2
                    subst hcc
                    have hcb : ts'.count (3, (a, b'), n) ≤ ts'.length := List.count_le_length
                    obtain ⟨w7, hes, hown7, hg7⟩ := hst ((ts'.count (3, (a, b'), n) : Int) + 1) (WalkArith.wf_i64 (by omega))
                    have HF7 := Lib.hid ((HFX.out.below (drew_below _)).grown hg7 (fun e => by injection e with e; have := HSZB.out; omega))
                    obtain ⟨c2, hl7, hat7, -⟩ := hown7.lookup_int law28 Tryz.underlying83 Tryz.underlying3 (zero3 _) hkl
                    rw [Maps.atKey_put_same (own_isMap hmm1) (law28.key hkl)] at hat7
                    have hc2 := (Lit.int.inj (DataW.lit.inj hat7)).2
                    subst hc2
                    have hgx : wx.grownBy w7 (some w2.heap.size) := ⟨hg7.os, hg7.tape, hg7.output, hg7.size, hg7.block⟩
                    have HR7 := Lib.hid (HRX.out.grown hgx (fun g e1 e2 => by injection e2 with e2; have := HNEW.out g e1; omega))
                    have hD := own_isMap hmm1
                    have HFO := Lib.hid (fun hin => HAX.out.old hz3 hD hcn hkl hown7 hgx hin)
                    have HFN := Lib.hid (fun (W' : World) (o : Obj) (g cap : Nat) hrow hg' => FAt.new (W' := W') (o := o) (g := g) (cap := cap) HAX.out hz3 hD hcn hkl hown7 hgx hrow hg')
                    have HO7 := Lib.hid (HAX.out.o.kept hgx (not_mb HAX.out.o hz3))
                    have HS7 := Lib.hid hgx.size
                    have HZ7 := Lib.hid (Nat.le_trans HAX.out.s.size hgx.size)
                    have HOZ := Lib.hid HAX.out.z
                    simp only [tgV] at hl1 hme hl2 hes hl7
                    (try simp only [Nat.cast_ofNat_Int] at hl1 hme hl2 hes hl7)
                    simp only [goInt] at hme hes
                    have HIN := Lib.hid (List.count_eq_zero (a := (3, (a, b'), n)) (l := ts'))
                    generalize List.count (3, (a, b'), n) ts' = q at *
                    have hl1x : (Instr.lookup 83 (.map (some w2.heap.size)) (.agg #[.int .i64 3, .string ⟨a.toArray⟩, .string ⟨b'.toArray⟩, .string ⟨n.toArray⟩]) false).run Tryz.prog wx.drew = .ok (.int .i64 (q : Int)) wx.drew := hl1
                    have hmex : (Instr.mapEntry 83 (.map (some w2.heap.size)) (.agg #[.int .i64 3, .string ⟨a.toArray⟩, .string ⟨b'.toArray⟩, .string ⟨n.toArray⟩])).run Tryz.prog wx.drew = .ok (.tuple #[.int .i64 (q : Int), .int .i64 (st : Int)]) w6 := hme
                    have hl2x : (Instr.lookup 83 (.map (some w2.heap.size)) (.agg #[.int .i64 3, .string ⟨a.toArray⟩, .string ⟨b'.toArray⟩, .string ⟨n.toArray⟩]) false).run Tryz.prog w6 = .ok (.int .i64 (q : Int)) w6 := hl2
                    have hl7x : (Instr.lookup 83 (.map (some w2.heap.size)) (.agg #[.int .i64 3, .string ⟨a.toArray⟩, .string ⟨b'.toArray⟩, .string ⟨n.toArray⟩]) false).run Tryz.prog w7 = .ok (.int .i64 ((q : Int) + 1)) w7 := hl7
                    clear hl1 hme hl2 hl7
                    have hwq : IntKind.i64.wrap ((q : Int) + 1) = (q : Int) + 1 := by rw [IntKind.wrap_i64]; omega
                    clear hat hat7 hst hown7 hg7 hg6 hgx hcn hkl hmm1 hD
                    obtain ⟨⟨-, y0, y1, y2, y3⟩, -⟩ := HF7.out
                    obtain ⟨⟨-, x0, x1, x2, x3⟩, -⟩ := HFX.out
                    by_cases hq : q = 0
                    · subst hq
                      have hnin := HIN.out.1 rfl
                      have HNI := Lib.hid (fun (e : (3, (a, b'), n) ∈ out') => hnin ((HAX.out.e _).1 e))
                      clear hnin
                      rw [show (((0 : Nat) : Int) + 1) = 1 from rfl] at hes hl7x
                      go_region
                      go_wp2_with (first | (at_builtin; refine app_gen rfl _ _ 22 28 4 56 (.agg #[.int .i64 0, .string ⟨#[]⟩, .string ⟨#[]⟩, .string ⟨#[]⟩]) Tryz.underlying22 info28 rfl (by decide) (by decide) rfl w3.heap.size _ _ _ rfl (World.ownsRow.alloc (w := w7) HO7.out _) w7.heap.size 1 [.int .i64 3, .string ⟨a.toArray⟩, .string ⟨b'.toArray⟩, .string ⟨n.toArray⟩] rfl rfl (cells4 _ _ _ _ _ _) (by intro u hu; simp at hu; rcases hu with rfl | rfl | rfl | rfl <;> rfl) (by have := HOZ.out; omega) (by rw [World.size_alloc]; exact Nat.le_succ_of_le HZ7.out) ?_; intro g' cap' w8 hown8 hgr8 hat8) | fail)
                      go_roundg (l.length - (j + 1))
                      case rel =>
                        refine ⟨j + 1, by go_num, by omega, rfl, ?_, ?_, ?_⟩
                        · rw [HTK.out, addAll_snoc, List.map_append, ← List.append_assoc, HOUT.out, HTS2.out, add_new _ (by rw [HSELF.out]; exact HNI.out), List.map_cons, List.map_nil, HSELF.out]
                          exact HFN.out _ _ _ _ hown8 hgr8
                        · exact (HR7.out.below (alloc_below w7 _)).grown hgr8 (fun g e1 e2 => HSEP2.out g e2.symm e1)
                        · intro g e1 e2
                          simp only [Value.ownBlock, Option.some.injEq] at e1
                          subst e1
                          rcases hat8 with h8 | h8
                          · exact HSEP2.out _ h8 e2
                          · have h9 := HR7.out.lt (fun e => by rw [List.map_eq_nil_iff] at e; rw [e] at hlj; exact absurd hlj (Nat.not_lt_zero _)) g' e2
                            rw [World.size_alloc] at h8
                            omega
                      case measure => have := HG2.out; omega
                    · have hq1 : ((q : Int) + 1 == 1) = false := by rw [beq_eq_false_iff_ne]; omega
                      have hin : (3, (a, b'), n) ∈ ts' := by
                        by_cases hm : (3, (a, b'), n) ∈ ts'
                        · exact hm
                        · exact absurd (HIN.out.2 hm) hq
                      have HII := Lib.hid hin
                      clear hin
                      go_region
                      go_wp2_with fail
                      go_roundg (l.length - (j + 1))
                      case rel =>
                        refine ⟨j + 1, by go_num, by omega, rfl, ?_, HR7.out, HSEP2.out⟩
                        rw [HTK.out, addAll_snoc, List.map_append, ← List.append_assoc, HOUT.out, HTS2.out, add_old _ (by rw [HSELF.out]; exact (HAX.out.e _).2 HII.out), List.map_cons, List.map_nil, HSELF.out]
                        exact HFO.out HII.out
                      case measure => have := HG2.out; omega
                  · have hbq : (n == lu) = false := by rw [beq_eq_false_iff_ne]; exact hn
                    go_wp2_with fail
                    clear d0 d1 d2 d3 e0 e1 e2 e3
                    go_region_held3 (fun W => W.cell? ⟨wr.heap.size, 0, none⟩ = some (.int .i64 2) ∧ W.cell? ⟨wr.heap.size, 1, none⟩ = some (.string ⟨a.toArray⟩) ∧ W.cell? ⟨wr.heap.size, 2, none⟩ = some (.string ⟨b'.toArray⟩) ∧ W.cell? ⟨wr.heap.size, 3, none⟩ = some (.string ⟨n.toArray⟩))
                      (first | exact hS | exact hS7 | go_keep)
                      (first | ((with_reducible refine (HLOW.out _).mono ?_); rintro e wx ⟨rfl, hb9⟩; have hbd9 := hbd.trans (hb9.mono hbd.size); clear hbd hb9; have hbd := hbd9; clear hbd9; have hS7 := HKS.out _ hbd))
                    have HFX := Lib.hid (HF1.out.below hbd)
                    have HAX := Lib.hid (HAA.out.below hbd)
                    have HRX := Lib.hid (HRR.out.below hbd)
                    clear hbd hS hS7
                    have hself : ownT us.data.toList (2, (a, b'), n) = (2, (a, b'), n) := by simpa [hn] using HOWN.out
                    have HSELF := Lib.hid hself
                    have HSHT := Lib.hid hTs
                    have HSZB := Lib.hid (show w2.heap.size < wr.heap.size by omega)
                    clear hself hTs
                    go_wp2_with fail
                    obtain ⟨D, hmm1, hcn⟩ := HAX.out.m
                    obtain ⟨kl, hkl⟩ := key_ok HSHT.out
                    have hB16 := HL16.out
                    obtain ⟨c, st, w6, hat, hl1, hme, hl2, hg6, hst⟩ := entry_law hmm1.drew law28 Tryz.underlying83 Tryz.underlying3 (fun W => zero3 W) (by unfold maxLen; omega) hkl
                    rw [hcn _ _ hkl] at hat
                    have hcc := (Lit.int.inj (DataW.lit.inj hat)).2
                    subst hcc
                    have hcb : ts'.count (2, (a, b'), n) ≤ ts'.length := List.count_le_length
                    obtain ⟨w7, hes, hown7, hg7⟩ := hst ((ts'.count (2, (a, b'), n) : Int) + 1) (WalkArith.wf_i64 (by omega))
                    have HF7 := Lib.hid ((HFX.out.below (drew_below _)).grown hg7 (fun e => by injection e with e; have := HSZB.out; omega))
                    obtain ⟨c2, hl7, hat7, -⟩ := hown7.lookup_int law28 Tryz.underlying83 Tryz.underlying3 (zero3 _) hkl
                    rw [Maps.atKey_put_same (own_isMap hmm1) (law28.key hkl)] at hat7
                    have hc2 := (Lit.int.inj (DataW.lit.inj hat7)).2
                    subst hc2
                    have hgx : wx.grownBy w7 (some w2.heap.size) := ⟨hg7.os, hg7.tape, hg7.output, hg7.size, hg7.block⟩
                    have HR7 := Lib.hid (HRX.out.grown hgx (fun g e1 e2 => by injection e2 with e2; have := HNEW.out g e1; omega))
                    have hD := own_isMap hmm1
                    have HFO := Lib.hid (fun hin => HAX.out.old hz3 hD hcn hkl hown7 hgx hin)
                    have HFN := Lib.hid (fun (W' : World) (o : Obj) (g cap : Nat) hrow hg' => FAt.new (W' := W') (o := o) (g := g) (cap := cap) HAX.out hz3 hD hcn hkl hown7 hgx hrow hg')
                    have HO7 := Lib.hid (HAX.out.o.kept hgx (not_mb HAX.out.o hz3))
                    have HS7 := Lib.hid hgx.size
                    have HZ7 := Lib.hid (Nat.le_trans HAX.out.s.size hgx.size)
                    have HOZ := Lib.hid HAX.out.z
                    simp only [tgV] at hl1 hme hl2 hes hl7
                    (try simp only [Nat.cast_ofNat_Int] at hl1 hme hl2 hes hl7)
                    simp only [goInt] at hme hes
                    have HIN := Lib.hid (List.count_eq_zero (a := (2, (a, b'), n)) (l := ts'))
                    generalize List.count (2, (a, b'), n) ts' = q at *
                    have hl1x : (Instr.lookup 83 (.map (some w2.heap.size)) (.agg #[.int .i64 2, .string ⟨a.toArray⟩, .string ⟨b'.toArray⟩, .string ⟨n.toArray⟩]) false).run Tryz.prog wx.drew = .ok (.int .i64 (q : Int)) wx.drew := hl1
                    have hmex : (Instr.mapEntry 83 (.map (some w2.heap.size)) (.agg #[.int .i64 2, .string ⟨a.toArray⟩, .string ⟨b'.toArray⟩, .string ⟨n.toArray⟩])).run Tryz.prog wx.drew = .ok (.tuple #[.int .i64 (q : Int), .int .i64 (st : Int)]) w6 := hme
                    have hl2x : (Instr.lookup 83 (.map (some w2.heap.size)) (.agg #[.int .i64 2, .string ⟨a.toArray⟩, .string ⟨b'.toArray⟩, .string ⟨n.toArray⟩]) false).run Tryz.prog w6 = .ok (.int .i64 (q : Int)) w6 := hl2
                    have hl7x : (Instr.lookup 83 (.map (some w2.heap.size)) (.agg #[.int .i64 2, .string ⟨a.toArray⟩, .string ⟨b'.toArray⟩, .string ⟨n.toArray⟩]) false).run Tryz.prog w7 = .ok (.int .i64 ((q : Int) + 1)) w7 := hl7
                    clear hl1 hme hl2 hl7
                    have hwq : IntKind.i64.wrap ((q : Int) + 1) = (q : Int) + 1 := by rw [IntKind.wrap_i64]; omega
                    clear hat hat7 hst hown7 hg7 hg6 hgx hcn hkl hmm1 hD
                    obtain ⟨⟨-, y0, y1, y2, y3⟩, -⟩ := HF7.out
                    obtain ⟨⟨-, x0, x1, x2, x3⟩, -⟩ := HFX.out
                    by_cases hq : q = 0
                    · subst hq
                      have hnin := HIN.out.1 rfl
                      have HNI := Lib.hid (fun (e : (2, (a, b'), n) ∈ out') => hnin ((HAX.out.e _).1 e))
                      clear hnin
                      rw [show (((0 : Nat) : Int) + 1) = 1 from rfl] at hes hl7x
                      go_region
                      go_wp2_with (first | (at_builtin; refine app_gen rfl _ _ 22 28 4 56 (.agg #[.int .i64 0, .string ⟨#[]⟩, .string ⟨#[]⟩, .string ⟨#[]⟩]) Tryz.underlying22 info28 rfl (by decide) (by decide) rfl w3.heap.size _ _ _ rfl (World.ownsRow.alloc (w := w7) HO7.out _) w7.heap.size 1 [.int .i64 2, .string ⟨a.toArray⟩, .string ⟨b'.toArray⟩, .string ⟨n.toArray⟩] rfl rfl (cells4 _ _ _ _ _ _) (by intro u hu; simp at hu; rcases hu with rfl | rfl | rfl | rfl <;> rfl) (by have := HOZ.out; omega) (by rw [World.size_alloc]; exact Nat.le_succ_of_le HZ7.out) ?_; intro g' cap' w8 hown8 hgr8 hat8) | fail)
                      go_roundg (l.length - (j + 1))
                      case rel =>
                        refine ⟨j + 1, by go_num, by omega, rfl, ?_, ?_, ?_⟩
                        · rw [HTK.out, addAll_snoc, List.map_append, ← List.append_assoc, HOUT.out, HTS2.out, add_new _ (by rw [HSELF.out]; exact HNI.out), List.map_cons, List.map_nil, HSELF.out]
                          exact HFN.out _ _ _ _ hown8 hgr8
                        · exact (HR7.out.below (alloc_below w7 _)).grown hgr8 (fun g e1 e2 => HSEP2.out g e2.symm e1)
                        · intro g e1 e2
                          simp only [Value.ownBlock, Option.some.injEq] at e1
                          subst e1
                          rcases hat8 with h8 | h8
                          · exact HSEP2.out _ h8 e2
                          · have h9 := HR7.out.lt (fun e => by rw [List.map_eq_nil_iff] at e; rw [e] at hlj; exact absurd hlj (Nat.not_lt_zero _)) g' e2
                            rw [World.size_alloc] at h8
                            omega
                      case measure => have := HG2.out; omega
                    · have hq1 : ((q : Int) + 1 == 1) = false := by rw [beq_eq_false_iff_ne]; omega
                      have hin : (2, (a, b'), n) ∈ ts' := by
                        by_cases hm : (2, (a, b'), n) ∈ ts'
                        · exact hm
                        · exact absurd (HIN.out.2 hm) hq
                      have HII := Lib.hid hin
                      clear hin
                      go_region
                      go_wp2_with fail
                      go_roundg (l.length - (j + 1))
                      case rel =>
                        refine ⟨j + 1, by go_num, by omega, rfl, ?_, HR7.out, HSEP2.out⟩
                        rw [HTK.out, addAll_snoc, List.map_append, ← List.append_assoc, HOUT.out, HTS2.out, add_old _ (by rw [HSELF.out]; exact (HAX.out.e _).2 HII.out), List.map_cons, List.map_nil, HSELF.out]
                        exact HFO.out HII.out
                      case measure => have := HG2.out; omega
                · have n2 : ((k : Int) == 2) = false := by rw [beq_eq_false_iff_ne]; omega
                  have hself : ownT us.data.toList (k, (a, b'), n) = (k, (a, b'), n) := by unfold ownT; rw [if_neg (fun e => hk2 e.1)]
                  have HSELF := Lib.hid hself
                  clear hself
                  obtain ⟨⟨-, e0, e1, e2, e3⟩, -⟩ := HF1.out
                  go_wp2_with fail
                  go_region
                  go_wp2_with fail
                  have HSHT := Lib.hid hTs
                  have HFX := Lib.hid (HF1.out.below (drew_below _))
                  have HAX := Lib.hid (HAA.out.below (drew_below _))
                  have HRX := Lib.hid (HRR.out.below (drew_below _))
                  have HSZB := Lib.hid (show w2.heap.size < wr.heap.size by omega)
                  clear d0 d1 d2 d3 e0 e1 e2 e3 hTs
                  generalize hwx : (wr.alloc (.cells #[.int .i64 (k : Int), .string ⟨a.toArray⟩, .string ⟨b'.toArray⟩, .string ⟨n.toArray⟩] 28)).drew = wx at *
                  obtain ⟨D, hmm1, hcn⟩ := HAX.out.m
                  obtain ⟨kl, hkl⟩ := key_ok HSHT.out
                  have hB16 := HL16.out
                  obtain ⟨c, st, w6, hat, hl1, hme, hl2, hg6, hst⟩ := entry_law hmm1.drew law28 Tryz.underlying83 Tryz.underlying3 (fun W => zero3 W) (by unfold maxLen; omega) hkl
                  rw [hcn _ _ hkl] at hat
                  have hcc := (Lit.int.inj (DataW.lit.inj hat)).2
                  subst hcc
                  have hcb : ts'.count (k, (a, b'), n) ≤ ts'.length := List.count_le_length
                  obtain ⟨w7, hes, hown7, hg7⟩ := hst ((ts'.count (k, (a, b'), n) : Int) + 1) (WalkArith.wf_i64 (by omega))
                  have HF7 := Lib.hid ((HFX.out.below (drew_below _)).grown hg7 (fun e => by injection e with e; have := HSZB.out; omega))
                  obtain ⟨c2, hl7, hat7, -⟩ := hown7.lookup_int law28 Tryz.underlying83 Tryz.underlying3 (zero3 _) hkl
                  rw [Maps.atKey_put_same (own_isMap hmm1) (law28.key hkl)] at hat7
                  have hc2 := (Lit.int.inj (DataW.lit.inj hat7)).2
                  subst hc2
                  have hgx : wx.grownBy w7 (some w2.heap.size) := ⟨hg7.os, hg7.tape, hg7.output, hg7.size, hg7.block⟩
                  have HR7 := Lib.hid (HRX.out.grown hgx (fun g e1 e2 => by injection e2 with e2; have := HNEW.out g e1; omega))
                  have hD := own_isMap hmm1
                  have HFO := Lib.hid (fun hin => HAX.out.old hz3 hD hcn hkl hown7 hgx hin)
                  have HFN := Lib.hid (fun (W' : World) (o : Obj) (g cap : Nat) hrow hg' => FAt.new (W' := W') (o := o) (g := g) (cap := cap) HAX.out hz3 hD hcn hkl hown7 hgx hrow hg')
                  have HO7 := Lib.hid (HAX.out.o.kept hgx (not_mb HAX.out.o hz3))
                  have HS7 := Lib.hid hgx.size
                  have HZ7 := Lib.hid (Nat.le_trans HAX.out.s.size hgx.size)
                  have HOZ := Lib.hid HAX.out.z
                  simp only [tgV] at hl1 hme hl2 hes hl7
                  simp only [goInt] at hme hes
                  have HIN := Lib.hid (List.count_eq_zero (a := (k, (a, b'), n)) (l := ts'))
                  generalize List.count (k, (a, b'), n) ts' = q at *
                  have hl1x : (Instr.lookup 83 (.map (some w2.heap.size)) (.agg #[.int .i64 (k : Int), .string ⟨a.toArray⟩, .string ⟨b'.toArray⟩, .string ⟨n.toArray⟩]) false).run Tryz.prog wx.drew = .ok (.int .i64 (q : Int)) wx.drew := hl1
                  have hmex : (Instr.mapEntry 83 (.map (some w2.heap.size)) (.agg #[.int .i64 (k : Int), .string ⟨a.toArray⟩, .string ⟨b'.toArray⟩, .string ⟨n.toArray⟩])).run Tryz.prog wx.drew = .ok (.tuple #[.int .i64 (q : Int), .int .i64 (st : Int)]) w6 := hme
                  have hl2x : (Instr.lookup 83 (.map (some w2.heap.size)) (.agg #[.int .i64 (k : Int), .string ⟨a.toArray⟩, .string ⟨b'.toArray⟩, .string ⟨n.toArray⟩]) false).run Tryz.prog w6 = .ok (.int .i64 (q : Int)) w6 := hl2
                  have hl7x : (Instr.lookup 83 (.map (some w2.heap.size)) (.agg #[.int .i64 (k : Int), .string ⟨a.toArray⟩, .string ⟨b'.toArray⟩, .string ⟨n.toArray⟩]) false).run Tryz.prog w7 = .ok (.int .i64 ((q : Int) + 1)) w7 := hl7
                  clear hl1 hme hl2 hl7
                  have hwq : IntKind.i64.wrap ((q : Int) + 1) = (q : Int) + 1 := by rw [IntKind.wrap_i64]; omega
                  clear hat hat7 hst hown7 hg7 hg6 hgx hcn hkl hmm1 hD
                  obtain ⟨⟨-, y0, y1, y2, y3⟩, -⟩ := HF7.out
                  obtain ⟨⟨-, x0, x1, x2, x3⟩, -⟩ := HFX.out
                  by_cases hq : q = 0
                  · subst hq
                    have hnin := HIN.out.1 rfl
                    have HNI := Lib.hid (fun (e : (k, (a, b'), n) ∈ out') => hnin ((HAX.out.e _).1 e))
                    clear hnin
                    rw [show (((0 : Nat) : Int) + 1) = 1 from rfl] at hes hl7x
                    go_region
                    go_wp2_with (first | (at_builtin; refine app_gen rfl _ _ 22 28 4 56 (.agg #[.int .i64 0, .string ⟨#[]⟩, .string ⟨#[]⟩, .string ⟨#[]⟩]) Tryz.underlying22 info28 rfl (by decide) (by decide) rfl w3.heap.size _ _ _ rfl (World.ownsRow.alloc (w := w7) HO7.out _) w7.heap.size 1 [.int .i64 (k : Int), .string ⟨a.toArray⟩, .string ⟨b'.toArray⟩, .string ⟨n.toArray⟩] rfl rfl (cells4 _ _ _ _ _ _) (by intro u hu; simp at hu; rcases hu with rfl | rfl | rfl | rfl <;> rfl) (by have := HOZ.out; omega) (by rw [World.size_alloc]; exact Nat.le_succ_of_le HZ7.out) ?_; intro g' cap' w8 hown8 hgr8 hat8) | fail)
                    go_roundg (l.length - (j + 1))
                    case rel =>
                      refine ⟨j + 1, by go_num, by omega, rfl, ?_, ?_, ?_⟩
                      · rw [HTK.out, addAll_snoc, List.map_append, ← List.append_assoc, HOUT.out, HTS2.out, add_new _ (by rw [HSELF.out]; exact HNI.out), List.map_cons, List.map_nil, HSELF.out]
                        exact HFN.out _ _ _ _ hown8 hgr8
                      · exact (HR7.out.below (alloc_below w7 _)).grown hgr8 (fun g e1 e2 => HSEP2.out g e2.symm e1)
                      · intro g e1 e2
                        simp only [Value.ownBlock, Option.some.injEq] at e1
                        subst e1
                        rcases hat8 with h8 | h8
                        · exact HSEP2.out _ h8 e2
                        · have h9 := HR7.out.lt (fun e => by rw [List.map_eq_nil_iff] at e; rw [e] at hlj; exact absurd hlj (Nat.not_lt_zero _)) g' e2
                          rw [World.size_alloc] at h8
                          omega
                    case measure => have := HG2.out; omega
                  · have hq1 : ((q : Int) + 1 == 1) = false := by rw [beq_eq_false_iff_ne]; omega
                    have hin : (k, (a, b'), n) ∈ ts' := by
                      by_cases hm : (k, (a, b'), n) ∈ ts'
                      · exact hm
                      · exact absurd (HIN.out.2 hm) hq
                    have HII := Lib.hid hin
                    clear hin
                    go_region
                    go_wp2_with fail
                    go_roundg (l.length - (j + 1))
                    case rel =>
                      refine ⟨j + 1, by go_num, by omega, rfl, ?_, HR7.out, HSEP2.out⟩
                      rw [HTK.out, addAll_snoc, List.map_append, ← List.append_assoc, HOUT.out, HTS2.out, add_old _ (by rw [HSELF.out]; exact (HAX.out.e _).2 HII.out), List.map_cons, List.map_nil, HSELF.out]
                      exact HFO.out HII.out
                    case measure => have := HG2.out; omega
              · have hjk : j = l.length := by omega
                subst hjk
                have ho := HOUT.out
                have ht := HTS2.out
                rw [List.take_length] at ho ht
                have HO := Lib.hid ho
                have HT := Lib.hid ht
                have hlt2 : ts'.length = ts.length + l.length := by rw [← ht, List.length_append, List.length_map]
                have HLT2 := Lib.hid hlt2
                clear ho ht hlt2
                go_wp2_with fail
                go_roundg (es.length - (i + 1))
                case rel =>
                  refine ⟨i + 1, out', ts', by go_num, by omega, rfl, ?_, HL16.out, ?_, HAT2.out⟩
                  · rw [HLT2.out]; rfl
                  · rw [HLT2.out, ← HO.out]; exact HFG3.out
                case measure => have := HG.out; omega
      · have hik : i = es.length := by omega
        subst hik
        have hfg := HFG.out
        rw [show es.length = (es.map (·.2)).length from (List.length_map _).symm, List.drop_length] at hfg
        have hRo : R = some out := hfg.symm
        have hFo : F = out := by
          have := HFR.out
          rw [hRo] at this
          exact this
        have HFO := Lib.hid hFo
        have hbl := HAT.out.s.low (B := w2.heap.size) (Nat.le_refl _) (Nat.le_of_lt hz3)
        have HBF := Lib.hid (HB3.out.trans (hbl.mono HB2.out.size))
        have hrow := HAT.out.o
        rw [show out.length = (out.map up).length from (List.length_map _).symm] at hrow
        have hgr := GRow.of (C := tiC) (fun _ => rfl) hrow
        have HGR := Lib.hid hgr
        have hcp := own_cap hrow
        obtain ⟨p8, c8, hv8⟩ := own_slice hrow
        subst hv8
        rw [List.length_map] at *
        have HCP := Lib.hid hcp
        clear hcp
        clear hfg hRo hFo hbl hrow hgr
        cases hout : out with
        | nil =>
          subst hout
          go_wp2
          go_ret2
          exact ⟨.slice p8 0 c8, by rw [HFO.out]; rfl, by rw [HFO.out]; exact HGR.out, HCP.out, HBF.out⟩
        | cons x r =>
          subst hout
          have hpos : (0 : Int) < ((x :: r).length : Int) := by simp only [List.length_cons]; omega
          have hpos2 : (0 : Int) < (r.length : Int) + 1 := by omega
          go_wp2
          go_ret2
          exact ⟨.slice p8 (x :: r).length c8, by rw [HFO.out]; rfl, by rw [HFO.out]; exact HGR.out, HCP.out, HBF.out⟩
end Go.Proofs.YtkoncmmbdlnmfaaGreatDoor
