/- A map's entry found or made, its number read and written: in whatever order. -/
import Derived.Test.YtkoncmmbdlnmfaaGreatDoorEK2
import Derived.Maps.OwnOps
import Derived.Maps.Views
namespace Go.Proofs.YtkoncmmbdlnmfaaGreatDoor
open Go.RowKit Go.Lib Go.Maps Go.ChangeMaps
open Go.WideElems (Fit rd rg pl rd_val elemAt)

set_option linter.unusedSimpArgs false
set_option linter.unusedVariables false
set_option linter.unnecessarySimpa false
set_option maxRecDepth 100000

section
variable {H : Type} {P : Program} {w : World} {t k e : TypeId} {b n : Nat} {D : DataW H} {q : IntKind}
theorem setBlock_same {w : World} {b : Nat} {o : Obj} (h : w.heap[b]? = some o) : setBlock w b o = w := by
  have hl := (Array.getElem?_eq_some_iff.1 h).1
  have he : w.heap[b] = o := by simpa [Array.getElem?_eq_getElem hl] using h
  have : w.heap.setIfInBounds b o = w.heap := by
    apply Array.ext_getElem?
    intro i
    rw [Array.getElem?_setIfInBounds]
    split
    · rename_i hi
      subst hi
      exact h.symm
    · rfl
  unfold setBlock
  rw [this]
theorem setBlock_two (w : World) (b : Nat) (o o' : Obj) : setBlock (setBlock w b o) b o' = setBlock w b o' := by
  unfold setBlock
  simp
theorem set_grown {w : World} {b : Nat} {es : Array MapEntry} {clock : Nat} (hb : w.heap[b]? = some (.map es clock)) (o : Obj) : w.grownBy (setBlock w b o) (some b) :=
  ⟨rfl, rfl, rfl, by simp [setBlock], fun i _ hi => heap_setBlock_other hb _ (fun e => hi (by rw [e]))⟩
theorem find_born (es : List MapEntry) (c : Nat) (h : ∀ x ∈ es, x.born < c) (x : MapEntry) (hx : x.born = c) : (es ++ [x]).findIdx? (fun e => (e.born : Int) == (c : Int)) = some es.length := by
  rw [List.findIdx?_append]
  have : es.findIdx? (fun e => (e.born : Int) == (c : Int)) = none := by
    rw [List.findIdx?_eq_none_iff]
    intro y hy
    have := h y hy
    simp only [beq_eq_false_iff_ne]
    omega
  rw [this]
  simp [hx]
theorem modify_congr (es : Array MapEntry) (j : Nat) (f g : MapEntry → MapEntry) (h : ∀ x, es[j]? = some x → f x = g x) : es.modify j f = es.modify j g := by
  apply Array.ext_getElem?
  intro i
  rw [Array.getElem?_modify, Array.getElem?_modify]
  split
  · rename_i hi
    subst hi
    cases he : es[j]? with
    | none => rfl
    | some x => simp [h x he]
  · rfl
theorem modify_id (es : Array MapEntry) (j : Nat) (f : MapEntry → MapEntry) (h : ∀ x, es[j]? = some x → f x = x) : es.modify j f = es := by
  apply Array.ext_getElem?
  intro i
  rw [Array.getElem?_modify]
  split
  · rename_i hi
    subst hi
    cases he : es[j]? with
    | none => rfl
    | some x => simp [h x he]
  · rfl
theorem modify_last (es : Array MapEntry) (x : MapEntry) (f : MapEntry → MapEntry) : (es.push x).modify es.size f = es.push (f x) := by
  apply Array.ext_getElem?
  intro i
  rw [Array.getElem?_modify, Array.getElem?_push, Array.getElem?_push]
  by_cases hi : i = es.size
  · subst hi; simp
  · rw [if_neg (fun e => hi e.symm), if_neg hi, if_neg hi]
theorem find_born_at {es : List MapEntry} {j : Nat} {x : MapEntry} (hn : (es.map (·.born)).Nodup) (hj : es[j]? = some x) : es.findIdx? (fun e => (e.born : Int) == (x.born : Int)) = some j := by
  rw [List.findIdx?_eq_some_iff_getElem]
  obtain ⟨hl, he⟩ := List.getElem?_eq_some_iff.1 hj
  refine ⟨hl, by simp [he], fun i hi => ?_⟩
  intro h
  have h0 : ((es[i]).born : Int) = (x.born : Int) := by simpa using h
  have h1 : (es[i]).born = x.born := by omega
  have h2 : (es.map (·.born))[i]'(by rw [List.length_map]; omega) = (es.map (·.born))[j]'(by rw [List.length_map]; omega) := by
    rw [List.getElem_map, List.getElem_map, he, h1]
  have := (List.getElem_inj hn).1 h2
  omega
/-- 'm[k] op= v' by its parts: the entry is found or made, its number read, written: in whatever order the number is read. -/
theorem entry_law (h : w.ownsMap P k (plainElem P e) b n D) (K : Keyed P k) (ht : P.underlying t = some (.map k e)) (he : P.underlying e = some (.int q)) (hz : ∀ W, (zeroValue e).run P W = .ok (.int q 0) W) (hn : n < maxLen)
    {key : Value} {kl : Lit} (hkey : keyOf P k key = some kl) :
    ∃ (c : Int) (st : Nat) (w2 : World), D.atKey kl (.lit (.int q 0)) = .lit (.int q c) ∧ (Instr.lookup t (.map (some b)) key false).run P w = .ok (.int q c) w ∧
      (Instr.mapEntry t (.map (some b)) key).run P w = .ok (.tuple #[.int q c, goInt st]) w2 ∧ (Instr.lookup t (.map (some b)) key false).run P w2 = .ok (.int q c) w2 ∧ w.grownBy w2 (some b) ∧
      ∀ d : Int, (Lit.int q d).wf = true → ∃ w3, (Instr.entryStore t (.map (some b)) (goInt st) (.int q d)).run P w2 = .ok () w3 ∧ w3.ownsMap P k (plainElem P e) b (n + 1) (D.put kl (.lit (.int q d))) ∧ w.grownBy w3 (some b) := by
  have hw0 : (Lit.int q 0).wf = true := by cases q <;> decide
  have hup := fun (d : Int) (hd : (Lit.int q d).wf = true) => h.update K ht hn hkey (plainElem_int (H := H) he hd)
  obtain ⟨c, hl, hat, hwc⟩ := h.lookup_int K ht he (hz w) hkey
  obtain ⟨es, clock, hb, F, hs, hD⟩ := h
  rcases K.find w hkey es.toList F.keys with ⟨h1, h2⟩ | ⟨j, e0, h1, h2, h3⟩
  · have hc : c = 0 := by
      have hl2 := hl
      simp [Instr.lookup, run_underlying ht, MapKept.run_getObj_map hb, K.check w _ hkey, h1, hz, Result.andThen] at hl2
      exact hl2.symm
    subst hc
    have hE : (Instr.mapEntry t (.map (some b)) key).run P w = .ok (.tuple #[.int q 0, goInt clock]) (setBlock w b (.map (es.push ⟨key, .int q 0, clock⟩) (clock + 1))) := by
      simp [Instr.mapEntry, run_underlying ht, MapKept.run_getObj_map hb, K.check w false hkey, h1, hz, MapKept.run_setObj_map _ hb, Result.andThen, setBlock]
    have hU : ∀ d : Int, (Instr.mapUpdate t (.map (some b)) key (.int q d)).run P w = .ok () (setBlock w b (.map (es.push ⟨key, .int q d, clock⟩) (clock + 1))) := fun d => by
      simp [Instr.mapUpdate, run_underlying ht, MapKept.run_getObj_map hb, K.check w false hkey, h1, MapKept.run_setObj_map _ hb, Result.andThen, setBlock]
    have hown : ∀ d : Int, (Lit.int q d).wf = true → (setBlock w b (.map (es.push ⟨key, .int q d, clock⟩) (clock + 1))).ownsMap P k (plainElem P e) b (n + 1) (D.put kl (.lit (.int q d))) := fun d hd => by
      obtain ⟨w', r1, r2, -⟩ := hup d hd
      rw [hU d] at r1
      injection r1 with _ r1
      rw [r1]
      exact r2
    refine ⟨0, clock, _, hat, hl, hE, ?_, set_grown hb _, fun d hd => ⟨_, ?_, hown d hd, set_grown hb _⟩⟩
    · obtain ⟨c2, hl2, hat2, -⟩ := (hown 0 hw0).lookup_int K ht he (hz _) hkey
      rw [Maps.atKey_put_same (by rw [hD]; exact ⟨_, rfl⟩) (K.key hkey)] at hat2
      have e2 := (Lit.int.inj (DataW.lit.inj hat2)).2
      rw [← e2] at hl2
      exact hl2
    · have hb2 := heap_setBlock_same hb (.map (es.push ⟨key, .int q 0, clock⟩) (clock + 1))
      have hf : (es.push (⟨key, .int q 0, clock⟩ : MapEntry)).findIdx? (fun e => (e.born : Int) == (clock : Int)) = some es.size := by
        have e0 : es.push (⟨key, .int q 0, clock⟩ : MapEntry) = (es.toList ++ [(⟨key, .int q 0, clock⟩ : MapEntry)]).toArray := by
          apply Array.toList_inj.1
          rw [Array.toList_push]
        rw [e0, List.findIdx?_toArray, find_born es.toList clock F.stamped.1 _ rfl, Array.length_toList]
      have hm := modify_last es ⟨key, .int q 0, clock⟩ (fun e' => { e' with val := .int q d })
      have hst := MapKept.run_setObj_map (P := P) (.map ((es.push ⟨key, .int q 0, clock⟩).modify es.size fun e' => { e' with val := .int q d }) (clock + 1)) hb2
      rw [hm] at hst
      simp only [Instr.entryStore, Sem.run_bind, MapKept.run_getObj_map hb2, Result.andThen_ok, asInt, asIntOf, goInt, Sem.run_pure, hf, hm]
      refine hst.trans ?_
      show Result.ok () (setBlock (setBlock w b _) b _) = _
      rw [setBlock_two]
  · have hj : es[j]? = some e0 := by simpa using h2
    have hv : e0.val = .int q c := by
      have hl2 := hl
      simp [Instr.lookup, run_underlying ht, MapKept.run_getObj_map hb, K.check w _ hkey, h1, Result.andThen] at hl2
      exact hl2
    have hE : (Instr.mapEntry t (.map (some b)) key).run P w = .ok (.tuple #[.int q c, goInt e0.born]) w := by
      have hm := modify_id es j (fun e' => { e' with key := key }) (fun x hx => by rw [hj] at hx; cases hx; rw [← h3])
      have hst := MapKept.run_setObj_map (P := P) (.map (es.modify j fun e' => { e' with key := key }) clock) hb
      have hw : ({ w with heap := w.heap.setIfInBounds b (.map es clock) } : World) = w := setBlock_same hb
      rw [hm, hw] at hst
      simp [Instr.mapEntry, run_underlying ht, MapKept.run_getObj_map hb, K.check w false hkey, h1, hj, h3, K.stays w hkey, hm, hst, hv, Result.andThen]
    refine ⟨c, e0.born, w, hat, hl, hE, hl, ⟨rfl, rfl, rfl, Nat.le_refl _, fun _ _ _ => rfl⟩, fun d hd => ?_⟩
    obtain ⟨w', r1, r2, r3⟩ := hup d hd
    refine ⟨w', ?_, r2, r3⟩
    have hm := modify_congr es j (fun e' => { e' with val := .int q d }) (fun e' => { e' with key := key, val := .int q d }) (fun x hx => by rw [hj] at hx; cases hx; rw [← h3])
    have hf : es.findIdx? (fun e => (e.born : Int) == (e0.born : Int)) = some j := by
      have e0' : es = es.toList.toArray := by simp
      rw [e0', List.findIdx?_toArray]
      exact find_born_at F.stamped.2.1 h2
    have hst := MapKept.run_setObj_map (P := P) (.map (es.modify j fun e' => { e' with key := key, val := .int q d }) clock) hb
    have hU : (Instr.mapUpdate t (.map (some b)) key (.int q d)).run P w = .ok () { w with heap := w.heap.setIfInBounds b (.map (es.modify j fun e' => { e' with key := key, val := .int q d }) clock) } := by
      simp [Instr.mapUpdate, run_underlying ht, MapKept.run_getObj_map hb, K.check w false hkey, h1, hj, h3, K.stays w hkey, hst, Result.andThen]
    rw [hU] at r1
    simp only [Instr.entryStore, Sem.run_bind, MapKept.run_getObj_map hb, Result.andThen_ok, asInt, asIntOf, goInt, Sem.run_pure, hf, hm]
    exact hst.trans r1
end
end Go.Proofs.YtkoncmmbdlnmfaaGreatDoor
