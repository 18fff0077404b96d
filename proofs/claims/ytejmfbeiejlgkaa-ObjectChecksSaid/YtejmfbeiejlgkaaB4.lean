/- Plain law: the program's check of an object says what the reference's says and what follows. Conditions: in each statement. -/
import Derived.Test.YtejmfbeiejlgkaaB3
import Derived.Test.YtejmfbeiejlgkaaA3
import Derived.Test.YtejmfbeiejlgkaaA2
import Derived.WalkKit
import Derived.ProofKit
import Derived.OpenShut
import Derived.ShutString
import Derived.ChangeOld
import Derived.Below
import Derived.SizedLaws
/-! Plain law: the program's check of an object says what the reference's says. Conditions: none. -/
namespace Go.Proofs.Ytejmfbeiejlgkaa.obj
open Go Go.Ab
theorem namedFrom_iff : ∀ (l seen : List ByteArray), namedFrom seen l = true ↔ (∀ s ∈ l, nameOk s = true ∧ s ∉ seen) ∧ l.Pairwise (· ≠ ·)
  | [], seen => by simp [namedFrom]
  | s :: l, seen => by
    rw [namedFrom, Bool.and_eq_true, Bool.and_eq_true, namedFrom_iff l (seen ++ [s])]
    have hin : (!sIn s seen) = true ↔ s ∉ seen := by
      rw [← sIn_iff]; cases sIn s seen <;> simp
    rw [hin, List.pairwise_cons]
    constructor
    · rintro ⟨⟨h1, h2⟩, h3, h4⟩
      refine ⟨fun x hx => ?_, fun x hx e => ?_, h4⟩
      · rcases List.mem_cons.1 hx with rfl | hx
        · exact ⟨h1, h2⟩
        · exact ⟨(h3 x hx).1, fun k => (h3 x hx).2 (List.mem_append.2 (.inl k))⟩
      · subst e; exact (h3 _ hx).2 (by simp)
    · rintro ⟨h1, h2, h3⟩
      refine ⟨h1 s (by simp), fun x hx => ⟨(h1 x (by simp [hx])).1, fun k => ?_⟩, h3⟩
      rcases List.mem_append.1 k with k | k
      · exact (h1 x (by simp [hx])).2 k
      · simp at k; subst k; exact h2 x hx rfl
theorem names_iff {α : Type} (f : α → ByteArray) (l : List α) : namedFrom [] (l.map f) = true ↔ ∀ i (h : i < l.length), nameOk (f l[i]) = true ∧ ∀ k (hk : k < i), f (l[k]'(by omega)) ≠ f l[i] := by
  rw [namedFrom_iff, List.pairwise_iff_getElem]
  constructor
  · rintro ⟨h1, h2⟩ i hi
    refine ⟨(h1 _ (List.mem_map.2 ⟨l[i], List.getElem_mem hi, rfl⟩)).1, fun k hk => ?_⟩
    have := h2 k i (by simp; omega) (by simpa using hi) hk
    simpa using this
  · intro h
    refine ⟨fun s hs => ?_, fun i j hi hj hij => ?_⟩
    · obtain ⟨x, hx, rfl⟩ := List.mem_map.1 hs
      obtain ⟨i, hi, rfl⟩ := List.getElem_of_mem hx
      exact ⟨(h i hi).1, by simp⟩
    · have := (h j (by simpa using hj)).2 i hij
      simpa using this
theorem range_iff {p : Nat → Bool} {n : Nat} : (List.range n).all p = true ↔ ∀ i, i < n → p i = true := by
  rw [List.all_eq_true]
  exact ⟨fun h i hi => h i (List.mem_range.2 hi), fun h i hi => h i (List.mem_range.1 hi)⟩
theorem all_iff {α : Type} {p : α → Bool} {l : List α} : l.all p = true ↔ ∀ i (h : i < l.length), p l[i] = true := by
  rw [List.all_eq_true]
  constructor
  · exact fun h i hi => h _ (List.getElem_mem hi)
  · intro h x hx
    obtain ⟨i, hi, rfl⟩ := List.getElem_of_mem hx
    exact h i hi
theorem secR_iff (o : Obj) (i : Nat) (h : i < o.secs.length) : secR o i = true ↔ nameOk o.secs[i].name = true ∧ secOk o.secs[i] = true ∧ ∀ k (hk : k < i), (o.secs[k]'(by omega)).name ≠ o.secs[i].name := by
  have hs : o.secs[i]? = some o.secs[i] := List.getElem?_eq_getElem h
  have hq : (List.range i).all (secQ o i) = true ↔ ∀ k (hk : k < i), (o.secs[k]'(by omega)).name ≠ o.secs[i].name := by
    rw [range_iff]
    constructor
    · intro g k hk
      have := g k hk
      simp only [secQ, hs, List.getElem?_eq_getElem (show k < o.secs.length by omega)] at this
      simpa using this
    · intro g k hk
      simp only [secQ, hs, List.getElem?_eq_getElem (show k < o.secs.length by omega)]
      simpa using g k hk
  simp only [secR, hs, Bool.and_eq_true, hq, secOk]
  have : (!decide ((16384 : Int) < o.secs[i].bytes.length)) = decide ((o.secs[i].bytes.length : Int) ≤ 16384) := by
    by_cases g : (16384 : Int) < o.secs[i].bytes.length
    · rw [decide_eq_true g, decide_eq_false (by omega)]; rfl
    · rw [decide_eq_false g, decide_eq_true (by omega)]; rfl
  rw [this]
  constructor
  · rintro ⟨⟨⟨a, b⟩, c⟩, d⟩; exact ⟨a, ⟨b, c⟩, d⟩
  · rintro ⟨a, ⟨b, c⟩, d⟩; exact ⟨⟨⟨a, b⟩, c⟩, d⟩
theorem size_range {o : Obj} {k a : Int} (h : btw 0 a (sizeI o k) = true) : 0 ≤ k ∧ k ≤ (o.secs.length : Int) - 1 := by
  simp only [btw, Bool.and_eq_true, decide_eq_true_eq] at h
  by_cases g : 0 ≤ k ∧ k ≤ (o.secs.length : Int) - 1
  · exact g
  · rw [sizeI, if_neg g] at h; omega
theorem symR_iff (o : Obj) (i : Nat) (h : i < o.syms.length) : symR o i = true ↔ nameOk o.syms[i].name = true ∧ symOk o o.syms[i] = true ∧ ∀ k (hk : k < i), (o.syms[k]'(by omega)).name ≠ o.syms[i].name := by
  have hs : o.syms[i]? = some o.syms[i] := List.getElem?_eq_getElem h
  have hq : (List.range i).all (symQ o i) = true ↔ ∀ k (hk : k < i), (o.syms[k]'(by omega)).name ≠ o.syms[i].name := by
    rw [range_iff]
    constructor
    · intro g k hk
      have := g k hk
      simp only [symQ, hs, List.getElem?_eq_getElem (show k < o.syms.length by omega)] at this
      simpa using this
    · intro g k hk
      simp only [symQ, hs, List.getElem?_eq_getElem (show k < o.syms.length by omega)]
      simpa using g k hk
  have key : (btw (-1) o.syms[i].sect ((o.secs.length : Int) - 1) && !(decide (o.syms[i].sect = -1) && !decide (o.syms[i].at_ = 0)) && !((!(decide (o.syms[i].sect = -1) && !decide (o.syms[i].at_ = 0)) && decide (0 ≤ o.syms[i].sect)) && !btw 0 o.syms[i].at_ (sizeI o o.syms[i].sect))) = symOk o o.syms[i] := by
    unfold symOk
    generalize o.syms[i] = s
    cases g4 : btw 0 s.at_ (sizeI o s.sect) with
    | true =>
      obtain ⟨g1, g2⟩ := size_range g4
      have e1 : decide (s.sect = -1) = false := decide_eq_false (by omega)
      have e2 : btw (-1) s.sect ((o.secs.length : Int) - 1) = true := by simp only [btw, Bool.and_eq_true, decide_eq_true_eq]; omega
      simp [e1, e2]
    | false =>
      by_cases e1 : s.sect = -1
      · have e2 : btw (-1) s.sect ((o.secs.length : Int) - 1) = true := by simp only [btw, Bool.and_eq_true, decide_eq_true_eq]; omega
        simp [e1] at e2 ⊢
        simp [e2]
      · cases e2 : btw (-1) s.sect ((o.secs.length : Int) - 1) with
        | false => simp [e1]
        | true =>
          simp only [btw, Bool.and_eq_true, decide_eq_true_eq] at e2
          simp [e1, show 0 ≤ s.sect by omega]
  simp only [symR, hs]
  rw [Bool.and_eq_true, hq, Bool.and_assoc (nameOk _), Bool.and_assoc (nameOk _), key, Bool.and_eq_true]
  constructor
  · rintro ⟨⟨a, b⟩, c⟩; exact ⟨a, b, c⟩
  · rintro ⟨a, b, c⟩; exact ⟨⟨a, b⟩, c⟩
theorem relR_eq (o : Obj) (i : Nat) (h : i < o.rels.length) : relR o i = relP o i := by
  have hs : o.rels[i]? = some o.rels[i] := List.getElem?_eq_getElem h
  simp only [relR, relP, hs, relB]
  obtain ⟨m, h1, h2⟩ : ∃ m : Bool, (match o.rels[i - 1]? with | some p => beforeB p o.rels[i] | none => false) = m ∧ (match o.rels[i - 1]? with | some p => decide (orderI p o.rels[i] < 0) | none => false) = m := by
    cases o.rels[i - 1]? with
    | none => exact ⟨false, rfl, rfl⟩
    | some p => exact ⟨_, rfl, orderI_lt _ _⟩
  have h1' : ∀ z : Bool, (!(!z && !(match o.rels[i - 1]? with | some p => beforeB p o.rels[i] | none => false))) = (z || m) := fun z => by rw [h1]; cases z <;> cases m <;> rfl
  have h2' : ∀ z : Bool, (z || (match o.rels[i - 1]? with | some p => decide (orderI p o.rels[i] < 0) | none => false)) = (z || m) := fun z => by rw [h2]
  refine (congrArg (fun q => relB o o.rels[i] && q) (h1' (decide ((i : Int) = 0)))).trans (Eq.trans ?_ (congrArg (fun q => kindB o.rels[i] && btw 0 o.rels[i].at_ (sizeI o o.rels[i].sect) && btw 0 o.rels[i].sym ((o.syms.length : Int) - 1) && btw (-1048576) o.rels[i].addend 1048576 && q) (h2' (decide ((i : Int) = 0)))).symm)
  simp only [relB]
  generalize decide ((i : Int) = 0) = z
  cases g4 : btw 0 o.rels[i].at_ (sizeI o o.rels[i].sect) with
  | true =>
    obtain ⟨g1, g2⟩ := size_range g4
    have e2 : btw 0 o.rels[i].sect ((o.secs.length : Int) - 1) = true := by simp only [btw, Bool.and_eq_true, decide_eq_true_eq]; omega
    rw [e2]
    generalize kindB o.rels[i] = a
    generalize btw 0 o.rels[i].sym ((o.syms.length : Int) - 1) = b
    generalize btw (-1048576) o.rels[i].addend 1048576 = c
    cases a <;> cases b <;> cases c <;> cases m <;> cases z <;> rfl
  | false => simp
theorem check_right (o : Obj) : checkB o = rightB o := by
  rw [Bool.eq_iff_iff]
  unfold checkB rightB
  have e16 : decide ((o.secs.length : Int) ≤ 16) = !decide ((16 : Int) < o.secs.length) := by
    by_cases g : (16 : Int) < o.secs.length
    · rw [decide_eq_true g, decide_eq_false (by omega)]; rfl
    · rw [decide_eq_false g, decide_eq_true (by omega)]; rfl
  have e200 : decide ((o.syms.length : Int) ≤ 200) = !decide ((200 : Int) < o.syms.length) := by
    by_cases g : (200 : Int) < o.syms.length
    · rw [decide_eq_true g, decide_eq_false (by omega)]; rfl
    · rw [decide_eq_false g, decide_eq_true (by omega)]; rfl
  have e500 : decide ((o.rels.length : Int) ≤ 500) = !decide ((500 : Int) < o.rels.length) := by
    by_cases g : (500 : Int) < o.rels.length
    · rw [decide_eq_true g, decide_eq_false (by omega)]; rfl
    · rw [decide_eq_false g, decide_eq_true (by omega)]; rfl
  rw [e16, e200, e500]
  simp only [Bool.and_eq_true]
  have er : (List.range o.rels.length).all (relR o) = true ↔ (List.range o.rels.length).all (relP o) = true := by
    rw [range_iff, range_iff]
    exact ⟨fun g i hi => by rw [← relR_eq o i hi]; exact g i hi, fun g i hi => by rw [relR_eq o i hi]; exact g i hi⟩
  have es : (List.range o.secs.length).all (secR o) = true ↔ namedFrom [] (o.secs.map (·.name)) = true ∧ o.secs.all secOk = true := by
    rw [range_iff, names_iff, all_iff]
    constructor
    · intro g
      exact ⟨fun i hi => ⟨((secR_iff o i hi).1 (g i hi)).1, ((secR_iff o i hi).1 (g i hi)).2.2⟩, fun i hi => ((secR_iff o i hi).1 (g i hi)).2.1⟩
    · rintro ⟨g1, g2⟩ i hi
      exact (secR_iff o i hi).2 ⟨(g1 i hi).1, g2 i hi, (g1 i hi).2⟩
  have ey : (List.range o.syms.length).all (symR o) = true ↔ namedFrom [] (o.syms.map (·.name)) = true ∧ o.syms.all (symOk o) = true := by
    rw [range_iff, names_iff, all_iff]
    constructor
    · intro g
      exact ⟨fun i hi => ⟨((symR_iff o i hi).1 (g i hi)).1, ((symR_iff o i hi).1 (g i hi)).2.2⟩, fun i hi => ((symR_iff o i hi).1 (g i hi)).2.1⟩
    · rintro ⟨g1, g2⟩ i hi
      exact (symR_iff o i hi).2 ⟨(g1 i hi).1, g2 i hi, (g1 i hi).2⟩
  rw [er, es, ey]
  constructor
  · rintro ⟨⟨⟨⟨⟨a, b⟩, c⟩, d⟩, e⟩, f⟩; exact ⟨⟨⟨a, b, d⟩, c, e⟩, f⟩
  · rintro ⟨⟨⟨a, b, d⟩, c, e⟩, f⟩; exact ⟨⟨⟨⟨⟨a, b⟩, c⟩, d⟩, e⟩, f⟩
end Go.Proofs.Ytejmfbeiejlgkaa.obj
/-! The functions below the Object laws, P9: finding a symbol. Conditions: in each statement. -/
namespace Go.Proofs.Ytejmfbeiejlgkaa.obj
open Go Go.Ab
set_option maxRecDepth 100000
set_option linter.unusedSimpArgs false
set_option linter.unusedVariables false
def fnd (nm : ByteArray) : List Sym → Nat → Int
  | [], _ => -1
  | s :: r, i => if s.name = nm then i else fnd nm r (i + 1)
theorem fnd_at {nm : ByteArray} {l : List Sym} {i : Nat} (h : i < l.length) (hf : fnd nm (l.drop i) i = fnd nm l 0) : fnd nm l 0 = if l[i].name = nm then (i : Int) else fnd nm (l.drop (i + 1)) (i + 1) := by
  rw [← hf, List.drop_eq_getElem_cons h, fnd]
theorem fnd_lt {nm : ByteArray} : ∀ (l : List Sym) (i : Nat), fnd nm l i < 0 → fnd nm l i = -1
  | [], i, h => rfl
  | s :: r, i, h => by
    rw [fnd] at h ⊢
    split at h
    · omega
    · rename_i g; rw [if_neg g]; exact fnd_lt r (i + 1) h
theorem f14_run (s : Sym) (nm : ByteArray) (b : Nat) (t : TypeId) (lo : Nat) (H : Heap) (hb : b < H.next) (hg : H.get b = some (.cells t [.str nm])) : callA Try.prog (om Try.prog) lo 14 [symV s, .ptr b 0] H = some (.bool (decide (s.name = nm)), H) := by
  obtain ⟨e, he, a0, a1, hc⟩ := c14_in (symV s) (.ptr b 0) lo H
  rw [hc]
  generalize AV.rfL [symV s, .ptr b 0] = c
  have hne : (b = H.next) = False := eq_false (by omega)
  simp (maxDischargeDepth := 8) -implicitDefEqProofs only [sr1, kA, Q.ev, evQ, evP, evalO, resultsA, tupA, AV.rfL, callV, exists_eq', List.length_set, ne_eq, Nat.reduceEqDiff, Nat.reduceLT, reduceCtorEq, Nat.reduceAdd, List.getElem?_cons_succ, List.getElem?_cons_zero, Option.map, if_true, if_false, beq_self_eq_true, List.length_cons, List.length_nil, List.cons_append, List.nil_append, List.append_nil, ite_self, Int.reduceBNe, Int.reduceBEq, Int.reduceLT, Int.reduceLE, heapFree, hid2, List.flatMap_nil, List.flatMap_cons, List.filter_nil, List.filter_cons, List.contains_cons, List.contains_nil, c14, o14_0, g14_0, o14_1, g14_1, a0, a1, he, symV, show leafs [AV.str s.name, AV.int .i64 s.sect, AV.int .i64 s.at_] = true from rfl, Heap.get_push, hne, hg]
set_option maxHeartbeats 4000000 in
theorem f13_loop (l : List Sym) (v : AV) (nm : ByteArray) (b : Nat) (t : TypeId) (lo : Nat) (H : Heap) (hv : SvY H v l) (hl : l.length < 2 ^ 62) (hb : b < H.next) (hg : H.get b = some (.cells t [.str nm])) : ∀ i e H', i ≤ l.length →
    (H' = H ∧ fnd nm (l.drop i) i = fnd nm l 0 ∧ e.length = 19 ∧ gd e 0 = v ∧ gd e 1 = .func 14 [] [.ptr b 0] ∧ gd e 7 = .int .i64 l.length ∧ gd e 8 = .int .i64 i) →
    Rn (om Try.prog ⟨13, none⟩ lo c13_l0 ⟨e, [], H'⟩) fun x e' H' => H' = H ∧ (x = .exit 0 ∧ e'.length = 19 ∧ fnd nm l 0 = -1 ∨ x = .ret ∧ gd e' 4 = .int .i64 (fnd nm l 0)) := by
  refine loop_rn l.length _ _ ?_
  rintro i e H' hi ⟨rfl, hf, he, a0, a1, a7, a8⟩
  by_cases h : i < l.length
  · have hd : decide ((i : Int) < l.length) = true := decide_eq_true (by omega)
    have hs : l[i]? = some l[i] := List.getElem?_eq_getElem h
    obtain ⟨q, i1, i2⟩ := SvY.ix hv hs
    have w1 : IntKind.i64.wrap ((i : Int) + 1) = ((i + 1 : Nat) : Int) := by rw [wi64 (by omega) (by omega)]; push_cast; rfl
    have hz := fnd_at h hf
    have fr := f14_run l[i] nm b t lo H' hb hg
    by_cases g : l[i].name = nm
    · rw [if_pos g] at hz
      rw [decide_eq_true g] at fr
      simp (maxDischargeDepth := 8) -implicitDefEqProofs only [sr1, kA, Q.ev, evQ, evP, evalO, resultsA, tupA, AV.rfL, callV, exists_eq', List.length_set, ne_eq, Nat.reduceEqDiff, Nat.reduceLT, reduceCtorEq, Nat.reduceAdd, List.getElem?_cons_succ, List.getElem?_cons_zero, Option.map, if_true, if_false, beq_self_eq_true, List.length_cons, List.length_nil, List.cons_append, List.nil_append, List.append_nil, ite_self, Int.reduceBNe, Int.reduceBEq, Int.reduceLT, Int.reduceLE, heapFree, hid2, List.flatMap_nil, List.flatMap_cons, List.filter_nil, List.filter_cons, List.contains_cons, List.contains_nil, c13, o13_0, g13_0, o13_1, g13_1, o13_2, g13_2, o13_3, g13_3, o13_4, g13_4, o13_5, g13_5, o13_6, g13_6, o13_7, g13_7, c13_b0, a0, a1, a7, a8, he, hd, i1, i2, fr, hz]
    · rw [if_neg g] at hz
      rw [decide_eq_false g] at fr
      simp (maxDischargeDepth := 8) -implicitDefEqProofs only [sr1, kA, Q.ev, evQ, evP, evalO, resultsA, tupA, AV.rfL, callV, exists_eq', List.length_set, ne_eq, Nat.reduceEqDiff, Nat.reduceLT, reduceCtorEq, Nat.reduceAdd, List.getElem?_cons_succ, List.getElem?_cons_zero, Option.map, if_true, if_false, beq_self_eq_true, List.length_cons, List.length_nil, List.cons_append, List.nil_append, List.append_nil, ite_self, Int.reduceBNe, Int.reduceBEq, Int.reduceLT, Int.reduceLE, heapFree, hid2, List.flatMap_nil, List.flatMap_cons, List.filter_nil, List.filter_cons, List.contains_cons, List.contains_nil, c13, o13_0, g13_0, o13_1, g13_1, o13_2, g13_2, o13_3, g13_3, o13_4, g13_4, o13_5, g13_5, o13_6, g13_6, o13_7, g13_7, c13_b0, a0, a1, a7, a8, he, hd, i1, i2, fr, hz, w1, h]
  · obtain rfl : i = l.length := by omega
    have hd : decide ((l.length : Int) < l.length) = false := decide_eq_false (by omega)
    rw [List.drop_eq_nil_of_le (Nat.le_refl _), fnd] at hf
    simp (maxDischargeDepth := 8) -implicitDefEqProofs only [sr1, kA, Q.ev, evQ, evP, evalO, resultsA, tupA, AV.rfL, callV, exists_eq', List.length_set, ne_eq, Nat.reduceEqDiff, Nat.reduceLT, reduceCtorEq, Nat.reduceAdd, List.getElem?_cons_succ, List.getElem?_cons_zero, Option.map, if_true, if_false, beq_self_eq_true, List.length_cons, List.length_nil, List.cons_append, List.nil_append, List.append_nil, ite_self, Int.reduceBNe, Int.reduceBEq, Int.reduceLT, Int.reduceLE, heapFree, hid2, List.flatMap_nil, List.flatMap_cons, List.filter_nil, List.filter_cons, List.contains_cons, List.contains_nil, c13, o13_0, g13_0, o13_1, g13_1, o13_2, g13_2, o13_3, g13_3, o13_4, g13_4, o13_5, g13_5, o13_6, g13_6, o13_7, g13_7, c13_b0, a0, a1, a7, a8, he, hd, hf.symm]
theorem f13_run (l : List Sym) (v : AV) (nm : ByteArray) (b : Nat) (t : TypeId) (lo : Nat) (H : Heap) (hv : SvY H v l) (hl : l.length < 2 ^ 62) (hb : b < H.next) (hg : H.get b = some (.cells t [.str nm])) :
    callA Try.prog (om Try.prog) lo 13 [v, .func 14 [] [.ptr b 0]] H = some (.int .i64 (fnd nm l 0), H) := by
  obtain ⟨e, he, a0, a1, hc⟩ := c13_in v (.func 14 [] [.ptr b 0]) lo H
  rw [hc]
  generalize AV.rfL [v, .func 14 [] [.ptr b 0]] = c
  generalize (if c = true then H.next else lo) = lo'
  have n1 := SvY.lenl hv
  simp (maxDischargeDepth := 8) -implicitDefEqProofs only [sr1, kA, Q.ev, evQ, evP, evalO, resultsA, tupA, AV.rfL, callV, exists_eq', List.length_set, ne_eq, Nat.reduceEqDiff, Nat.reduceLT, reduceCtorEq, Nat.reduceAdd, List.getElem?_cons_succ, List.getElem?_cons_zero, Option.map, if_true, if_false, beq_self_eq_true, List.length_cons, List.length_nil, List.cons_append, List.nil_append, List.append_nil, ite_self, Int.reduceBNe, Int.reduceBEq, Int.reduceLT, Int.reduceLE, heapFree, hid2, List.flatMap_nil, List.flatMap_cons, List.filter_nil, List.filter_cons, List.contains_cons, List.contains_nil, c13, o13_0, g13_0, o13_1, g13_1, o13_2, g13_2, o13_3, g13_3, o13_4, g13_4, o13_5, g13_5, o13_6, g13_6, o13_7, g13_7, a0, a1, he, n1]
  generalize hr : om Try.prog _ _ c13_l0 _ = r
  obtain ⟨x, e1, H1, rfl, rfl, ⟨rfl, he1, q⟩ | ⟨rfl, q⟩⟩ := rn_of hr (f13_loop l v nm b t lo' H hv hl hb hg 0 _ _ (Nat.zero_le _) ⟨rfl, rfl, by simp only [gd_eq, gd_ne, ne_eq, not_false_eq_true, Nat.reduceEqDiff, Nat.reduceLT, List.length_set, reduceCtorEq, he, a0, a1], by simp only [gd_eq, gd_ne, ne_eq, not_false_eq_true, Nat.reduceEqDiff, Nat.reduceLT, List.length_set, reduceCtorEq, he, a0, a1], by simp only [gd_eq, gd_ne, ne_eq, not_false_eq_true, Nat.reduceEqDiff, Nat.reduceLT, List.length_set, reduceCtorEq, he, a0, a1], by simp only [gd_eq, gd_ne, ne_eq, not_false_eq_true, Nat.reduceEqDiff, Nat.reduceLT, List.length_set, reduceCtorEq, he, a0, a1], by simp only [gd_eq, gd_ne, ne_eq, not_false_eq_true, Nat.reduceEqDiff, Nat.reduceLT, List.length_set, reduceCtorEq, he, a0, a1]; rfl⟩)
  · simp (maxDischargeDepth := 8) -implicitDefEqProofs only [sr1, kA, Q.ev, evQ, evP, evalO, resultsA, tupA, AV.rfL, callV, exists_eq', List.length_set, ne_eq, Nat.reduceEqDiff, Nat.reduceLT, reduceCtorEq, Nat.reduceAdd, List.getElem?_cons_succ, List.getElem?_cons_zero, Option.map, if_true, if_false, beq_self_eq_true, List.length_cons, List.length_nil, List.cons_append, List.nil_append, List.append_nil, ite_self, Int.reduceBNe, Int.reduceBEq, Int.reduceLT, Int.reduceLE, heapFree, hid2, List.flatMap_nil, List.flatMap_cons, List.filter_nil, List.filter_cons, List.contains_cons, List.contains_nil, c13, o13_0, g13_0, o13_1, g13_1, o13_2, g13_2, o13_3, g13_3, o13_4, g13_4, o13_5, g13_5, o13_6, g13_6, o13_7, g13_7, he1, q]
  · simp (maxDischargeDepth := 8) -implicitDefEqProofs only [sr1, kA, Q.ev, evQ, evP, evalO, resultsA, tupA, AV.rfL, callV, exists_eq', List.length_set, ne_eq, Nat.reduceEqDiff, Nat.reduceLT, reduceCtorEq, Nat.reduceAdd, List.getElem?_cons_succ, List.getElem?_cons_zero, Option.map, if_true, if_false, beq_self_eq_true, List.length_cons, List.length_nil, List.cons_append, List.nil_append, List.append_nil, ite_self, Int.reduceBNe, Int.reduceBEq, Int.reduceLT, Int.reduceLE, heapFree, hid2, List.flatMap_nil, List.flatMap_cons, List.filter_nil, List.filter_cons, List.contains_cons, List.contains_nil, c13, o13_0, g13_0, o13_1, g13_1, o13_2, g13_2, o13_3, g13_3, o13_4, g13_4, o13_5, g13_5, o13_6, g13_6, o13_7, g13_7, q]
def findV (o : Obj) (nm : ByteArray) : AV := if checkB o = true then (if fnd nm o.syms 0 < 0 then .tup [.int .i64 0, .int .i64 6] else .tup [.int .i64 (fnd nm o.syms 0), .int .i64 0]) else .tup [.int .i64 0, .int .i64 8]
set_option maxHeartbeats 4000000 in
theorem find_run (v : AV) (o : Obj) (nm : ByteArray) (H : Heap) (hR : RdO H v o) (hs : Sm o) (lo : Nat) (hlo : lo ≤ H.next) : callA Try.prog (om Try.prog) lo 6 [v, .str nm] H = some (findV o nm, H) := by
  obtain ⟨vs, vy, vr, rfl, h1, h2, h3⟩ := hR
  obtain ⟨e, he, a0, a1, hc⟩ := c6_in (.agg [.str o.machine, vs, vy, vr]) (.str nm) lo H
  rw [hc]
  have lf := obj_leafs h1 h2 h3
  have hb := (Box.push h1 h2 h3).ext ((Ext.refl _).push (.cells 9 [.str nm]))
  generalize AV.rfL [AV.agg [.str o.machine, vs, vy, vr], .str nm] = c
  generalize hlq : (if c = true then H.next else lo) = lo'
  have hlo' : lo' ≤ ((H.push (.cells 26 [.str o.machine, vs, vy, vr])).push (.cells 9 [.str nm])).next := by rw [← hlq]; have : ((H.push (.cells 26 [.str o.machine, vs, vy, vr])).push (.cells 9 [.str nm])).next = H.next + 2 := rfl; split <;> omega
  have ck := check_run _ o _ (box_load hb) hs lo' hlo'
  have ix := f13_run o.syms vy nm (H.next + 1) 9 lo' _ hb.y hs.y (by simp) (by simp [Heap.get_push])
  unfold findV
  cases hk : checkB o with
  | false =>
    simp only [hk, Bool.false_eq_true, if_false] at ck
    have g : decide ((8 : Int) = 0) = false := rfl
    simp (maxDischargeDepth := 8) -implicitDefEqProofs only [sr1, kA, Q.ev, evQ, evP, evalO, resultsA, tupA, AV.rfL, callV, exists_eq', List.length_set, ne_eq, Nat.reduceEqDiff, Nat.reduceLT, reduceCtorEq, Nat.reduceAdd, List.getElem?_cons_succ, List.getElem?_cons_zero, Option.map, if_true, if_false, beq_self_eq_true, List.length_cons, List.length_nil, List.cons_append, List.nil_append, List.append_nil, ite_self, Int.reduceBNe, Int.reduceBEq, Int.reduceLT, Int.reduceLE, heapFree, hid2, List.flatMap_nil, List.flatMap_cons, List.filter_nil, List.filter_cons, List.contains_cons, List.contains_nil, c6, o6_0, g6_0, o6_1, g6_1, o6_2, g6_2, o6_3, g6_3, o6_4, g6_4, o6_5, g6_5, o6_6, g6_6, o6_7, g6_7, a0, a1, he, lf, show leafs [AV.str nm] = true from rfl, Heap.get_push, nx_l, List.drop_zero, List.take, ck, g]
  | true =>
    simp only [hk, if_true] at ck
    have g : decide ((0 : Int) = 0) = true := rfl
    by_cases hn : fnd nm o.syms 0 < 0
    · have g2 : decide (fnd nm o.syms 0 < 0) = true := decide_eq_true hn
      simp (maxDischargeDepth := 8) -implicitDefEqProofs only [sr1, kA, Q.ev, evQ, evP, evalO, resultsA, tupA, AV.rfL, callV, exists_eq', List.length_set, ne_eq, Nat.reduceEqDiff, Nat.reduceLT, reduceCtorEq, Nat.reduceAdd, List.getElem?_cons_succ, List.getElem?_cons_zero, Option.map, if_true, if_false, beq_self_eq_true, List.length_cons, List.length_nil, List.cons_append, List.nil_append, List.append_nil, ite_self, Int.reduceBNe, Int.reduceBEq, Int.reduceLT, Int.reduceLE, heapFree, hid2, List.flatMap_nil, List.flatMap_cons, List.filter_nil, List.filter_cons, List.contains_cons, List.contains_nil, c6, o6_0, g6_0, o6_1, g6_1, o6_2, g6_2, o6_3, g6_3, o6_4, g6_4, o6_5, g6_5, o6_6, g6_6, o6_7, g6_7, a0, a1, he, lf, show leafs [AV.str nm] = true from rfl, Heap.get_push, nx_l, List.drop_zero, List.take, ck, g, ix, g2, hn]
    · have g2 : decide (fnd nm o.syms 0 < 0) = false := decide_eq_false hn
      simp (maxDischargeDepth := 8) -implicitDefEqProofs only [sr1, kA, Q.ev, evQ, evP, evalO, resultsA, tupA, AV.rfL, callV, exists_eq', List.length_set, ne_eq, Nat.reduceEqDiff, Nat.reduceLT, reduceCtorEq, Nat.reduceAdd, List.getElem?_cons_succ, List.getElem?_cons_zero, Option.map, if_true, if_false, beq_self_eq_true, List.length_cons, List.length_nil, List.cons_append, List.nil_append, List.append_nil, ite_self, Int.reduceBNe, Int.reduceBEq, Int.reduceLT, Int.reduceLE, heapFree, hid2, List.flatMap_nil, List.flatMap_cons, List.filter_nil, List.filter_cons, List.contains_cons, List.contains_nil, c6, o6_0, g6_0, o6_1, g6_1, o6_2, g6_2, o6_3, g6_3, o6_4, g6_4, o6_5, g6_5, o6_6, g6_6, o6_7, g6_7, a0, a1, he, lf, show leafs [AV.str nm] = true from rfl, Heap.get_push, nx_l, List.drop_zero, List.take, ck, g, ix, g2, hn]
set_option maxHeartbeats 4000000 in
theorem f7_loop (o : Obj) (nm : ByteArray) (b lo : Nat) (vs vy vr : AV) (hl : o.syms.length < 2 ^ 62) (H : Heap) (hb : Box H b o vs vy vr) : ∀ i e H', i ≤ o.syms.length →
    (H' = H ∧ fnd nm (o.syms.drop i) i = fnd nm o.syms 0 ∧ e.length = 26 ∧ gd e 1 = .str nm ∧ gd e 2 = .ptr b 0 ∧ gd e 6 = .int .i64 i) →
    Rn (om Try.prog ⟨7, none⟩ lo c7_l0 ⟨e, [], H'⟩) fun x e' H' => H' = H ∧ (x = .exit 0 ∧ e'.length = 26 ∧ fnd nm o.syms 0 = -1 ∨ x = .ret ∧ ¬ fnd nm o.syms 0 < 0 ∧ gd e' 4 = .int .i64 (fnd nm o.syms 0) ∧ gd e' 5 = .int .i64 0) := by
  refine loop_rn o.syms.length _ _ ?_
  rintro i e H' hi ⟨rfl, hf, he, a1, a2, a6⟩
  have gb := hb.get
  have n2 := SvY.lenl hb.y
  by_cases h : i < o.syms.length
  · have hd : decide ((i : Int) < o.syms.length) = true := decide_eq_true (by omega)
    have hs : o.syms[i]? = some o.syms[i] := List.getElem?_eq_getElem h
    obtain ⟨q, i1, i2⟩ := SvY.ix hb.y hs
    obtain ⟨q0, j1, j2⟩ := SvY.nm hb.y hs i1
    have w1 : IntKind.i64.wrap ((i : Int) + 1) = ((i + 1 : Nat) : Int) := by rw [wi64 (by omega) (by omega)]; push_cast; rfl
    have hz := fnd_at h hf
    by_cases g : o.syms[i].name = nm
    · rw [if_pos g] at hz
      have g1 : decide (o.syms[i].name = nm) = true := decide_eq_true g
      simp (maxDischargeDepth := 8) -implicitDefEqProofs only [sr1, kA, Q.ev, evQ, evP, evalO, resultsA, tupA, AV.rfL, callV, exists_eq', List.length_set, ne_eq, Nat.reduceEqDiff, Nat.reduceLT, reduceCtorEq, Nat.reduceAdd, List.getElem?_cons_succ, List.getElem?_cons_zero, Option.map, if_true, if_false, beq_self_eq_true, List.length_cons, List.length_nil, List.cons_append, List.nil_append, List.append_nil, ite_self, Int.reduceBNe, Int.reduceBEq, Int.reduceLT, Int.reduceLE, heapFree, hid2, List.flatMap_nil, List.flatMap_cons, List.filter_nil, List.filter_cons, List.contains_cons, List.contains_nil, c7, o7_0, g7_0, o7_1, g7_1, o7_2, g7_2, o7_3, g7_3, o7_4, g7_4, o7_6, g7_6, o7_7, g7_7, o7_5, g7_5, o7_8, g7_8, c7_b0, a1, a2, a6, he, hd, gb, n2, i1, j1, j2, g1, hz]
      omega
    · rw [if_neg g] at hz
      have g1 : decide (o.syms[i].name = nm) = false := decide_eq_false g
      simp (maxDischargeDepth := 8) -implicitDefEqProofs only [sr1, kA, Q.ev, evQ, evP, evalO, resultsA, tupA, AV.rfL, callV, exists_eq', List.length_set, ne_eq, Nat.reduceEqDiff, Nat.reduceLT, reduceCtorEq, Nat.reduceAdd, List.getElem?_cons_succ, List.getElem?_cons_zero, Option.map, if_true, if_false, beq_self_eq_true, List.length_cons, List.length_nil, List.cons_append, List.nil_append, List.append_nil, ite_self, Int.reduceBNe, Int.reduceBEq, Int.reduceLT, Int.reduceLE, heapFree, hid2, List.flatMap_nil, List.flatMap_cons, List.filter_nil, List.filter_cons, List.contains_cons, List.contains_nil, c7, o7_0, g7_0, o7_1, g7_1, o7_2, g7_2, o7_3, g7_3, o7_4, g7_4, o7_6, g7_6, o7_7, g7_7, o7_5, g7_5, o7_8, g7_8, c7_b0, a1, a2, a6, he, hd, gb, n2, i1, j1, j2, g1, hz, w1, h]
  · obtain rfl : i = o.syms.length := by omega
    have hd : decide ((o.syms.length : Int) < o.syms.length) = false := decide_eq_false (by omega)
    rw [List.drop_eq_nil_of_le (Nat.le_refl _), fnd] at hf
    simp (maxDischargeDepth := 8) -implicitDefEqProofs only [sr1, kA, Q.ev, evQ, evP, evalO, resultsA, tupA, AV.rfL, callV, exists_eq', List.length_set, ne_eq, Nat.reduceEqDiff, Nat.reduceLT, reduceCtorEq, Nat.reduceAdd, List.getElem?_cons_succ, List.getElem?_cons_zero, Option.map, if_true, if_false, beq_self_eq_true, List.length_cons, List.length_nil, List.cons_append, List.nil_append, List.append_nil, ite_self, Int.reduceBNe, Int.reduceBEq, Int.reduceLT, Int.reduceLE, heapFree, hid2, List.flatMap_nil, List.flatMap_cons, List.filter_nil, List.filter_cons, List.contains_cons, List.contains_nil, c7, o7_0, g7_0, o7_1, g7_1, o7_2, g7_2, o7_3, g7_3, o7_4, g7_4, o7_6, g7_6, o7_7, g7_7, o7_5, g7_5, o7_8, g7_8, c7_b0, a1, a2, a6, he, hd, gb, n2, hf.symm]
set_option maxHeartbeats 4000000 in
theorem find2_run (v : AV) (o : Obj) (nm : ByteArray) (H : Heap) (hR : RdO H v o) (hs : Sm o) (lo : Nat) (hlo : lo ≤ H.next) : callA Try.prog (om Try.prog) lo 7 [v, .str nm] H = some (findV o nm, H) := by
  obtain ⟨vs, vy, vr, rfl, h1, h2, h3⟩ := hR
  obtain ⟨e, he, a0, a1, hc⟩ := c7_in (.agg [.str o.machine, vs, vy, vr]) (.str nm) lo H
  rw [hc]
  have lf := obj_leafs h1 h2 h3
  have hb := Box.push h1 h2 h3
  generalize AV.rfL [AV.agg [.str o.machine, vs, vy, vr], .str nm] = c
  generalize hlq : (if c = true then H.next else lo) = lo'
  have hlo' : lo' ≤ (H.push (.cells 26 [.str o.machine, vs, vy, vr])).next := by rw [← hlq]; have : (H.push (.cells 26 [.str o.machine, vs, vy, vr])).next = H.next + 1 := rfl; split <;> omega
  have ck := right_run _ o _ (box_load hb) hs lo' hlo'
  unfold findV
  rw [check_right]
  cases hk : rightB o with
  | false =>
    rw [hk] at ck
    simp (maxDischargeDepth := 8) -implicitDefEqProofs only [sr1, kA, Q.ev, evQ, evP, evalO, resultsA, tupA, AV.rfL, callV, exists_eq', List.length_set, ne_eq, Nat.reduceEqDiff, Nat.reduceLT, reduceCtorEq, Nat.reduceAdd, List.getElem?_cons_succ, List.getElem?_cons_zero, Option.map, if_true, if_false, beq_self_eq_true, List.length_cons, List.length_nil, List.cons_append, List.nil_append, List.append_nil, ite_self, Int.reduceBNe, Int.reduceBEq, Int.reduceLT, Int.reduceLE, heapFree, hid2, List.flatMap_nil, List.flatMap_cons, List.filter_nil, List.filter_cons, List.contains_cons, List.contains_nil, c7, o7_0, g7_0, o7_1, g7_1, o7_2, g7_2, o7_3, g7_3, o7_4, g7_4, o7_6, g7_6, o7_7, g7_7, o7_5, g7_5, o7_8, g7_8, a0, a1, he, lf, Heap.get_push, nx_l, List.drop_zero, List.take, ck]
  | true =>
    rw [hk] at ck
    simp (maxDischargeDepth := 8) -implicitDefEqProofs only [sr1, kA, Q.ev, evQ, evP, evalO, resultsA, tupA, AV.rfL, callV, exists_eq', List.length_set, ne_eq, Nat.reduceEqDiff, Nat.reduceLT, reduceCtorEq, Nat.reduceAdd, List.getElem?_cons_succ, List.getElem?_cons_zero, Option.map, if_true, if_false, beq_self_eq_true, List.length_cons, List.length_nil, List.cons_append, List.nil_append, List.append_nil, ite_self, Int.reduceBNe, Int.reduceBEq, Int.reduceLT, Int.reduceLE, heapFree, hid2, List.flatMap_nil, List.flatMap_cons, List.filter_nil, List.filter_cons, List.contains_cons, List.contains_nil, c7, o7_0, g7_0, o7_1, g7_1, o7_2, g7_2, o7_3, g7_3, o7_4, g7_4, o7_6, g7_6, o7_7, g7_7, o7_5, g7_5, o7_8, g7_8, a0, a1, he, lf, Heap.get_push, nx_l, List.drop_zero, List.take, ck]
    generalize hr : om Try.prog _ _ c7_l0 _ = r
    obtain ⟨x, e1, H1, rfl, rfl, ⟨rfl, he1, q⟩ | ⟨rfl, q, p4, p5⟩⟩ := rn_of hr (f7_loop o nm H.next lo' vs vy vr hs.y _ hb 0 _ _ (Nat.zero_le _) ⟨rfl, rfl, by simp only [gd_eq, gd_ne, ne_eq, not_false_eq_true, Nat.reduceEqDiff, Nat.reduceLT, List.length_set, reduceCtorEq, he, a0, a1], by simp only [gd_eq, gd_ne, ne_eq, not_false_eq_true, Nat.reduceEqDiff, Nat.reduceLT, List.length_set, reduceCtorEq, he, a0, a1], by simp only [gd_eq, gd_ne, ne_eq, not_false_eq_true, Nat.reduceEqDiff, Nat.reduceLT, List.length_set, reduceCtorEq, he, a0, a1], by simp only [gd_eq, gd_ne, ne_eq, not_false_eq_true, Nat.reduceEqDiff, Nat.reduceLT, List.length_set, reduceCtorEq, he, a0, a1]; rfl⟩)
    · have g : (fnd nm o.syms 0 < 0) = True := eq_true (by omega)
      simp (maxDischargeDepth := 8) -implicitDefEqProofs only [sr1, kA, Q.ev, evQ, evP, evalO, resultsA, tupA, AV.rfL, callV, exists_eq', List.length_set, ne_eq, Nat.reduceEqDiff, Nat.reduceLT, reduceCtorEq, Nat.reduceAdd, List.getElem?_cons_succ, List.getElem?_cons_zero, Option.map, if_true, if_false, beq_self_eq_true, List.length_cons, List.length_nil, List.cons_append, List.nil_append, List.append_nil, ite_self, Int.reduceBNe, Int.reduceBEq, Int.reduceLT, Int.reduceLE, heapFree, hid2, List.flatMap_nil, List.flatMap_cons, List.filter_nil, List.filter_cons, List.contains_cons, List.contains_nil, c7, o7_0, g7_0, o7_1, g7_1, o7_2, g7_2, o7_3, g7_3, o7_4, g7_4, o7_6, g7_6, o7_7, g7_7, o7_5, g7_5, o7_8, g7_8, he1, g]
    · have g : (fnd nm o.syms 0 < 0) = False := eq_false q
      simp (maxDischargeDepth := 8) -implicitDefEqProofs only [sr1, kA, Q.ev, evQ, evP, evalO, resultsA, tupA, AV.rfL, callV, exists_eq', List.length_set, ne_eq, Nat.reduceEqDiff, Nat.reduceLT, reduceCtorEq, Nat.reduceAdd, List.getElem?_cons_succ, List.getElem?_cons_zero, Option.map, if_true, if_false, beq_self_eq_true, List.length_cons, List.length_nil, List.cons_append, List.nil_append, List.append_nil, ite_self, Int.reduceBNe, Int.reduceBEq, Int.reduceLT, Int.reduceLE, heapFree, hid2, List.flatMap_nil, List.flatMap_cons, List.filter_nil, List.filter_cons, List.contains_cons, List.contains_nil, c7, o7_0, g7_0, o7_1, g7_1, o7_2, g7_2, o7_3, g7_3, o7_4, g7_4, o7_6, g7_6, o7_7, g7_7, o7_5, g7_5, o7_8, g7_8, p4, p5, g]
theorem check2_run (v : AV) (o : Obj) (H : Heap) (hR : RdO H v o) (hs : Sm o) (lo : Nat) (hlo : lo ≤ H.next) : callA Try.prog (om Try.prog) lo 10 [v] H = some (.int .i64 (if checkB o = true then 0 else 8), H) := by
  obtain ⟨vs, vy, vr, rfl, h1, h2, h3⟩ := hR
  obtain ⟨e, he, a0, hc⟩ := c10_in (.agg [.str o.machine, vs, vy, vr]) lo H
  rw [hc]
  have lf := obj_leafs h1 h2 h3
  have hb := Box.push h1 h2 h3
  generalize AV.rfL [AV.agg [.str o.machine, vs, vy, vr]] = c
  generalize hlq : (if c = true then H.next else lo) = lo'
  have hlo' : lo' ≤ (H.push (.cells 26 [.str o.machine, vs, vy, vr])).next := by rw [← hlq]; have : (H.push (.cells 26 [.str o.machine, vs, vy, vr])).next = H.next + 1 := rfl; split <;> omega
  have ck := right_run _ o _ (box_load hb) hs lo' hlo'
  rw [check_right]
  cases hk : rightB o <;> rw [hk] at ck <;> simp (maxDischargeDepth := 8) -implicitDefEqProofs only [sr1, kA, Q.ev, evQ, evP, evalO, resultsA, tupA, AV.rfL, callV, exists_eq', List.length_set, ne_eq, Nat.reduceEqDiff, Nat.reduceLT, reduceCtorEq, Nat.reduceAdd, List.getElem?_cons_succ, List.getElem?_cons_zero, Option.map, if_true, if_false, beq_self_eq_true, List.length_cons, List.length_nil, List.cons_append, List.nil_append, List.append_nil, ite_self, Int.reduceBNe, Int.reduceBEq, Int.reduceLT, Int.reduceLE, heapFree, hid2, List.flatMap_nil, List.flatMap_cons, List.filter_nil, List.filter_cons, List.contains_cons, List.contains_nil, c10, o10_0, g10_0, o10_1, g10_1, o10_2, g10_2, o10_3, g10_3, a0, he, lf, Heap.get_push, nx_l, List.drop_zero, List.take, ck]
end Go.Proofs.Ytejmfbeiejlgkaa.obj
/-! The functions below the Object laws, P10: comparing lists. Conditions: in each statement. -/
namespace Go.Proofs.Ytejmfbeiejlgkaa.obj
open Go Go.Ab
set_option maxRecDepth 100000
set_option linter.unusedSimpArgs false
set_option linter.unusedVariables false
theorem take_eq {α : Type} {l m : List α} {i : Nat} (h : i < l.length) (h' : i < m.length) (ht : l.take i = m.take i) : l.take (i + 1) = m.take (i + 1) ↔ l[i] = m[i] := by
  rw [List.take_succ_eq_append_getElem h, List.take_succ_eq_append_getElem h', ht, List.append_cancel_left_eq]
  simp
theorem ne_at {α : Type} {l m : List α} {i : Nat} (h : i < l.length) (h' : i < m.length) (hn : ¬ l[i] = m[i]) : ¬ l = m := by
  rintro rfl; exact hn rfl
theorem gt41 : (!Try.prog.stoodInHeld 41 && !Try.prog.eqGuardType Try.prog.depth 41) = true := by kernel_rfl
theorem gt43 : (!Try.prog.stoodInHeld 43 && !Try.prog.eqGuardType Try.prog.depth 43) = true := by kernel_rfl
theorem eq41 (a b : Sym) : eqA Try.prog 41 (symV a) (symV b) = some (decide (a = b)) := by
  have e : decide (a = b) = (sEq a.name b.name && ((a.sect == b.sect) && ((a.at_ == b.at_) && true))) := by
    rw [sEq_dec]
    cases a; cases b
    simp only [Sym.mk.injEq, Bool.and_true, eqd, ← Bool.decide_and]
  rw [e]
  simp only [eqA, symV, Try.underlying41, gt41, if_true]
  simp [eqFlat, keyFits, eqLeafA, Try.underlying9, Try.underlying3, sEq]
theorem eq43 (a b : Rel) : eqA Try.prog 43 (relV a) (relV b) = some (decide (a = b)) := by
  have e : decide (a = b) = ((a.sect == b.sect) && ((a.at_ == b.at_) && ((a.kind == b.kind) && ((a.sym == b.sym) && ((a.addend == b.addend) && ((a.instr == b.instr) && ((a.operand == b.operand) && ((a.shift == b.shift) && true)))))))) := by
    cases a; cases b
    simp only [Rel.mk.injEq, Bool.and_true, eqd, ← Bool.decide_and]
  rw [e]
  simp only [eqA, relV, Try.underlying43, gt43, if_true]
  simp [eqFlat, keyFits, eqLeafA, Try.underlying5, Try.underlying3]
theorem ne41 (a b : Sym) : binA Try.prog .neq 41 (symV a) (symV b) = some (.bool (!decide (a = b))) := by
  have := eq41 a b
  simp only [symV] at this ⊢
  simp only [binA, this, Option.map]
theorem ne43 (a b : Rel) : binA Try.prog .neq 43 (relV a) (relV b) = some (.bool (!decide (a = b))) := by
  have := eq43 a b
  simp only [relV] at this ⊢
  simp only [binA, this, Option.map]

set_option maxHeartbeats 4000000 in
theorem f28_loop (l m : List Sym) (v u : AV) (lo : Nat) (H : Heap) (hv : SvY H v l) (hu : SvY H u m) (hl : l.length < 2 ^ 62) (hm : l.length = m.length) : ∀ i e H', i ≤ l.length →
    (H' = H ∧ l.take i = m.take i ∧ e.length = 26 ∧ gd e 0 = v ∧ gd e 1 = u ∧ gd e 12 = .int .i64 l.length ∧ gd e 13 = .int .i64 i) →
    Rn (om Try.prog ⟨28, none⟩ lo c28_l0 ⟨e, [], H'⟩) fun x e' H' => H' = H ∧ (x = .exit 0 ∧ e'.length = 26 ∧ l = m ∨ x = .ret ∧ gd e' 4 = .bool false ∧ ¬ l = m) := by
  refine loop_rn l.length _ _ ?_
  rintro i e H' hi ⟨rfl, ht, he, a0, a1, a12, a13⟩
  by_cases h : i < l.length
  · have h' : i < m.length := by omega
    have hd : decide ((i : Int) < l.length) = true := decide_eq_true (by omega)
    obtain ⟨q, i1, i2⟩ := SvY.ix hv (List.getElem?_eq_getElem h)
    obtain ⟨p, j1, j2⟩ := SvY.ix hu (List.getElem?_eq_getElem h')
    have w1 : IntKind.i64.wrap ((i : Int) + 1) = ((i + 1 : Nat) : Int) := by rw [wi64 (by omega) (by omega)]; push_cast; rfl
    have hne := ne41 l[i] m[i]
    by_cases g : l[i] = m[i]
    · rw [decide_eq_true g] at hne
      have hz := (take_eq h h' ht).2 g
      simp (maxDischargeDepth := 8) -implicitDefEqProofs only [sr1, kA, Q.ev, evQ, evP, evalO, resultsA, tupA, AV.rfL, callV, exists_eq', List.length_set, ne_eq, Nat.reduceEqDiff, Nat.reduceLT, reduceCtorEq, Nat.reduceAdd, List.getElem?_cons_succ, List.getElem?_cons_zero, Option.map, if_true, if_false, beq_self_eq_true, List.length_cons, List.length_nil, List.cons_append, List.nil_append, List.append_nil, ite_self, Int.reduceBNe, Int.reduceBEq, Int.reduceLT, Int.reduceLE, heapFree, hid2, List.flatMap_nil, List.flatMap_cons, List.filter_nil, List.filter_cons, List.contains_cons, List.contains_nil, c28, o28_0, g28_0, o28_1, g28_1, o28_2, g28_2, o28_3, g28_3, o28_4, g28_4, o28_5, g28_5, o28_6a, o28_6b, g28_6, o28_7, g28_7, o28_8, g28_8, o28_9, g28_9, c28_b0, a0, a1, a12, a13, he, hd, i1, i2, j1, j2, hne, w1, h, hz]
    · rw [decide_eq_false g] at hne
      simp (maxDischargeDepth := 8) -implicitDefEqProofs only [sr1, kA, Q.ev, evQ, evP, evalO, resultsA, tupA, AV.rfL, callV, exists_eq', List.length_set, ne_eq, Nat.reduceEqDiff, Nat.reduceLT, reduceCtorEq, Nat.reduceAdd, List.getElem?_cons_succ, List.getElem?_cons_zero, Option.map, if_true, if_false, beq_self_eq_true, List.length_cons, List.length_nil, List.cons_append, List.nil_append, List.append_nil, ite_self, Int.reduceBNe, Int.reduceBEq, Int.reduceLT, Int.reduceLE, heapFree, hid2, List.flatMap_nil, List.flatMap_cons, List.filter_nil, List.filter_cons, List.contains_cons, List.contains_nil, c28, o28_0, g28_0, o28_1, g28_1, o28_2, g28_2, o28_3, g28_3, o28_4, g28_4, o28_5, g28_5, o28_6a, o28_6b, g28_6, o28_7, g28_7, o28_8, g28_8, o28_9, g28_9, c28_b0, a0, a1, a12, a13, he, hd, i1, i2, j1, j2, hne]
      exact ne_at h h' g
  · obtain rfl : i = l.length := by omega
    have hd : decide ((l.length : Int) < l.length) = false := decide_eq_false (by omega)
    rw [List.take_length, List.take_of_length_le (by omega)] at ht
    simp (maxDischargeDepth := 8) -implicitDefEqProofs only [sr1, kA, Q.ev, evQ, evP, evalO, resultsA, tupA, AV.rfL, callV, exists_eq', List.length_set, ne_eq, Nat.reduceEqDiff, Nat.reduceLT, reduceCtorEq, Nat.reduceAdd, List.getElem?_cons_succ, List.getElem?_cons_zero, Option.map, if_true, if_false, beq_self_eq_true, List.length_cons, List.length_nil, List.cons_append, List.nil_append, List.append_nil, ite_self, Int.reduceBNe, Int.reduceBEq, Int.reduceLT, Int.reduceLE, heapFree, hid2, List.flatMap_nil, List.flatMap_cons, List.filter_nil, List.filter_cons, List.contains_cons, List.contains_nil, c28, o28_0, g28_0, o28_1, g28_1, o28_2, g28_2, o28_3, g28_3, o28_4, g28_4, o28_5, g28_5, o28_6a, o28_6b, g28_6, o28_7, g28_7, o28_8, g28_8, o28_9, g28_9, c28_b0, a0, a1, a12, a13, he, hd]
    exact ht
theorem f28_run (l m : List Sym) (v u : AV) (lo : Nat) (H : Heap) (hv : SvY H v l) (hu : SvY H u m) (hl : l.length < 2 ^ 62) : callA Try.prog (om Try.prog) lo 28 [v, u] H = some (.bool (decide (l = m)), H) := by
  obtain ⟨e, he, a0, a1, hc⟩ := c28_in v u lo H
  rw [hc]
  generalize AV.rfL [v, u] = c
  generalize (if c = true then H.next else lo) = lo'
  have n1 := SvY.lenl hv
  have n2 := SvY.lenl hu
  by_cases hm : l.length = m.length
  · have g : decide ((l.length : Int) = m.length) = true := decide_eq_true (by omega)
    simp (maxDischargeDepth := 8) -implicitDefEqProofs only [sr1, kA, Q.ev, evQ, evP, evalO, resultsA, tupA, AV.rfL, callV, exists_eq', List.length_set, ne_eq, Nat.reduceEqDiff, Nat.reduceLT, reduceCtorEq, Nat.reduceAdd, List.getElem?_cons_succ, List.getElem?_cons_zero, Option.map, if_true, if_false, beq_self_eq_true, List.length_cons, List.length_nil, List.cons_append, List.nil_append, List.append_nil, ite_self, Int.reduceBNe, Int.reduceBEq, Int.reduceLT, Int.reduceLE, heapFree, hid2, List.flatMap_nil, List.flatMap_cons, List.filter_nil, List.filter_cons, List.contains_cons, List.contains_nil, c28, o28_0, g28_0, o28_1, g28_1, o28_2, g28_2, o28_3, g28_3, o28_4, g28_4, o28_5, g28_5, o28_6a, o28_6b, g28_6, o28_7, g28_7, o28_8, g28_8, o28_9, g28_9, a0, a1, he, n1, n2, g]
    generalize hr : om Try.prog _ _ c28_l0 _ = r
    obtain ⟨x, e1, H1, rfl, rfl, ⟨rfl, he1, q⟩ | ⟨rfl, p4, q⟩⟩ := rn_of hr (f28_loop l m v u lo' H hv hu hl hm 0 _ _ (Nat.zero_le _) ⟨rfl, rfl, by simp only [gd_eq, gd_ne, ne_eq, not_false_eq_true, Nat.reduceEqDiff, Nat.reduceLT, List.length_set, reduceCtorEq, he, a0, a1], by simp only [gd_eq, gd_ne, ne_eq, not_false_eq_true, Nat.reduceEqDiff, Nat.reduceLT, List.length_set, reduceCtorEq, he, a0, a1], by simp only [gd_eq, gd_ne, ne_eq, not_false_eq_true, Nat.reduceEqDiff, Nat.reduceLT, List.length_set, reduceCtorEq, he, a0, a1], by simp only [gd_eq, gd_ne, ne_eq, not_false_eq_true, Nat.reduceEqDiff, Nat.reduceLT, List.length_set, reduceCtorEq, he, a0, a1], by simp only [gd_eq, gd_ne, ne_eq, not_false_eq_true, Nat.reduceEqDiff, Nat.reduceLT, List.length_set, reduceCtorEq, he, a0, a1]; rfl⟩)
    · have k : decide (l = m) = true := decide_eq_true q
      simp (maxDischargeDepth := 8) -implicitDefEqProofs only [sr1, kA, Q.ev, evQ, evP, evalO, resultsA, tupA, AV.rfL, callV, exists_eq', List.length_set, ne_eq, Nat.reduceEqDiff, Nat.reduceLT, reduceCtorEq, Nat.reduceAdd, List.getElem?_cons_succ, List.getElem?_cons_zero, Option.map, if_true, if_false, beq_self_eq_true, List.length_cons, List.length_nil, List.cons_append, List.nil_append, List.append_nil, ite_self, Int.reduceBNe, Int.reduceBEq, Int.reduceLT, Int.reduceLE, heapFree, hid2, List.flatMap_nil, List.flatMap_cons, List.filter_nil, List.filter_cons, List.contains_cons, List.contains_nil, c28, o28_0, g28_0, o28_1, g28_1, o28_2, g28_2, o28_3, g28_3, o28_4, g28_4, o28_5, g28_5, o28_6a, o28_6b, g28_6, o28_7, g28_7, o28_8, g28_8, o28_9, g28_9, he1, k]
    · have k : decide (l = m) = false := decide_eq_false q
      simp (maxDischargeDepth := 8) -implicitDefEqProofs only [sr1, kA, Q.ev, evQ, evP, evalO, resultsA, tupA, AV.rfL, callV, exists_eq', List.length_set, ne_eq, Nat.reduceEqDiff, Nat.reduceLT, reduceCtorEq, Nat.reduceAdd, List.getElem?_cons_succ, List.getElem?_cons_zero, Option.map, if_true, if_false, beq_self_eq_true, List.length_cons, List.length_nil, List.cons_append, List.nil_append, List.append_nil, ite_self, Int.reduceBNe, Int.reduceBEq, Int.reduceLT, Int.reduceLE, heapFree, hid2, List.flatMap_nil, List.flatMap_cons, List.filter_nil, List.filter_cons, List.contains_cons, List.contains_nil, c28, o28_0, g28_0, o28_1, g28_1, o28_2, g28_2, o28_3, g28_3, o28_4, g28_4, o28_5, g28_5, o28_6a, o28_6b, g28_6, o28_7, g28_7, o28_8, g28_8, o28_9, g28_9, p4, k]
  · have g : decide ((l.length : Int) = m.length) = false := decide_eq_false (by omega)
    have k : decide (l = m) = false := decide_eq_false (by rintro rfl; exact hm rfl)
    simp (maxDischargeDepth := 8) -implicitDefEqProofs only [sr1, kA, Q.ev, evQ, evP, evalO, resultsA, tupA, AV.rfL, callV, exists_eq', List.length_set, ne_eq, Nat.reduceEqDiff, Nat.reduceLT, reduceCtorEq, Nat.reduceAdd, List.getElem?_cons_succ, List.getElem?_cons_zero, Option.map, if_true, if_false, beq_self_eq_true, List.length_cons, List.length_nil, List.cons_append, List.nil_append, List.append_nil, ite_self, Int.reduceBNe, Int.reduceBEq, Int.reduceLT, Int.reduceLE, heapFree, hid2, List.flatMap_nil, List.flatMap_cons, List.filter_nil, List.filter_cons, List.contains_cons, List.contains_nil, c28, o28_0, g28_0, o28_1, g28_1, o28_2, g28_2, o28_3, g28_3, o28_4, g28_4, o28_5, g28_5, o28_6a, o28_6b, g28_6, o28_7, g28_7, o28_8, g28_8, o28_9, g28_9, a0, a1, he, n1, n2, g, k]

set_option maxHeartbeats 4000000 in
theorem f29_loop (l m : List Rel) (v u : AV) (lo : Nat) (H : Heap) (hv : SvR H v l) (hu : SvR H u m) (hl : l.length < 2 ^ 62) (hm : l.length = m.length) : ∀ i e H', i ≤ l.length →
    (H' = H ∧ l.take i = m.take i ∧ e.length = 26 ∧ gd e 0 = v ∧ gd e 1 = u ∧ gd e 12 = .int .i64 l.length ∧ gd e 13 = .int .i64 i) →
    Rn (om Try.prog ⟨29, none⟩ lo c29_l0 ⟨e, [], H'⟩) fun x e' H' => H' = H ∧ (x = .exit 0 ∧ e'.length = 26 ∧ l = m ∨ x = .ret ∧ gd e' 4 = .bool false ∧ ¬ l = m) := by
  refine loop_rn l.length _ _ ?_
  rintro i e H' hi ⟨rfl, ht, he, a0, a1, a12, a13⟩
  by_cases h : i < l.length
  · have h' : i < m.length := by omega
    have hd : decide ((i : Int) < l.length) = true := decide_eq_true (by omega)
    obtain ⟨q, i1, i2⟩ := SvR.ix hv (List.getElem?_eq_getElem h)
    obtain ⟨p, j1, j2⟩ := SvR.ix hu (List.getElem?_eq_getElem h')
    have w1 : IntKind.i64.wrap ((i : Int) + 1) = ((i + 1 : Nat) : Int) := by rw [wi64 (by omega) (by omega)]; push_cast; rfl
    have hne := ne43 l[i] m[i]
    by_cases g : l[i] = m[i]
    · rw [decide_eq_true g] at hne
      have hz := (take_eq h h' ht).2 g
      simp (maxDischargeDepth := 8) -implicitDefEqProofs only [sr1, kA, Q.ev, evQ, evP, evalO, resultsA, tupA, AV.rfL, callV, exists_eq', List.length_set, ne_eq, Nat.reduceEqDiff, Nat.reduceLT, reduceCtorEq, Nat.reduceAdd, List.getElem?_cons_succ, List.getElem?_cons_zero, Option.map, if_true, if_false, beq_self_eq_true, List.length_cons, List.length_nil, List.cons_append, List.nil_append, List.append_nil, ite_self, Int.reduceBNe, Int.reduceBEq, Int.reduceLT, Int.reduceLE, heapFree, hid2, List.flatMap_nil, List.flatMap_cons, List.filter_nil, List.filter_cons, List.contains_cons, List.contains_nil, c29, o29_0, g29_0, o29_1, g29_1, o29_2, g29_2, o29_3, g29_3, o29_4, g29_4, o29_5, g29_5, o29_6a, o29_6b, g29_6, o29_7, g29_7, o29_8, g29_8, o29_9, g29_9, c29_b0, a0, a1, a12, a13, he, hd, i1, i2, j1, j2, hne, w1, h, hz]
    · rw [decide_eq_false g] at hne
      simp (maxDischargeDepth := 8) -implicitDefEqProofs only [sr1, kA, Q.ev, evQ, evP, evalO, resultsA, tupA, AV.rfL, callV, exists_eq', List.length_set, ne_eq, Nat.reduceEqDiff, Nat.reduceLT, reduceCtorEq, Nat.reduceAdd, List.getElem?_cons_succ, List.getElem?_cons_zero, Option.map, if_true, if_false, beq_self_eq_true, List.length_cons, List.length_nil, List.cons_append, List.nil_append, List.append_nil, ite_self, Int.reduceBNe, Int.reduceBEq, Int.reduceLT, Int.reduceLE, heapFree, hid2, List.flatMap_nil, List.flatMap_cons, List.filter_nil, List.filter_cons, List.contains_cons, List.contains_nil, c29, o29_0, g29_0, o29_1, g29_1, o29_2, g29_2, o29_3, g29_3, o29_4, g29_4, o29_5, g29_5, o29_6a, o29_6b, g29_6, o29_7, g29_7, o29_8, g29_8, o29_9, g29_9, c29_b0, a0, a1, a12, a13, he, hd, i1, i2, j1, j2, hne]
      exact ne_at h h' g
  · obtain rfl : i = l.length := by omega
    have hd : decide ((l.length : Int) < l.length) = false := decide_eq_false (by omega)
    rw [List.take_length, List.take_of_length_le (by omega)] at ht
    simp (maxDischargeDepth := 8) -implicitDefEqProofs only [sr1, kA, Q.ev, evQ, evP, evalO, resultsA, tupA, AV.rfL, callV, exists_eq', List.length_set, ne_eq, Nat.reduceEqDiff, Nat.reduceLT, reduceCtorEq, Nat.reduceAdd, List.getElem?_cons_succ, List.getElem?_cons_zero, Option.map, if_true, if_false, beq_self_eq_true, List.length_cons, List.length_nil, List.cons_append, List.nil_append, List.append_nil, ite_self, Int.reduceBNe, Int.reduceBEq, Int.reduceLT, Int.reduceLE, heapFree, hid2, List.flatMap_nil, List.flatMap_cons, List.filter_nil, List.filter_cons, List.contains_cons, List.contains_nil, c29, o29_0, g29_0, o29_1, g29_1, o29_2, g29_2, o29_3, g29_3, o29_4, g29_4, o29_5, g29_5, o29_6a, o29_6b, g29_6, o29_7, g29_7, o29_8, g29_8, o29_9, g29_9, c29_b0, a0, a1, a12, a13, he, hd]
    exact ht
theorem f29_run (l m : List Rel) (v u : AV) (lo : Nat) (H : Heap) (hv : SvR H v l) (hu : SvR H u m) (hl : l.length < 2 ^ 62) : callA Try.prog (om Try.prog) lo 29 [v, u] H = some (.bool (decide (l = m)), H) := by
  obtain ⟨e, he, a0, a1, hc⟩ := c29_in v u lo H
  rw [hc]
  generalize AV.rfL [v, u] = c
  generalize (if c = true then H.next else lo) = lo'
  have n1 := SvR.lenl hv
  have n2 := SvR.lenl hu
  by_cases hm : l.length = m.length
  · have g : decide ((l.length : Int) = m.length) = true := decide_eq_true (by omega)
    simp (maxDischargeDepth := 8) -implicitDefEqProofs only [sr1, kA, Q.ev, evQ, evP, evalO, resultsA, tupA, AV.rfL, callV, exists_eq', List.length_set, ne_eq, Nat.reduceEqDiff, Nat.reduceLT, reduceCtorEq, Nat.reduceAdd, List.getElem?_cons_succ, List.getElem?_cons_zero, Option.map, if_true, if_false, beq_self_eq_true, List.length_cons, List.length_nil, List.cons_append, List.nil_append, List.append_nil, ite_self, Int.reduceBNe, Int.reduceBEq, Int.reduceLT, Int.reduceLE, heapFree, hid2, List.flatMap_nil, List.flatMap_cons, List.filter_nil, List.filter_cons, List.contains_cons, List.contains_nil, c29, o29_0, g29_0, o29_1, g29_1, o29_2, g29_2, o29_3, g29_3, o29_4, g29_4, o29_5, g29_5, o29_6a, o29_6b, g29_6, o29_7, g29_7, o29_8, g29_8, o29_9, g29_9, a0, a1, he, n1, n2, g]
    generalize hr : om Try.prog _ _ c29_l0 _ = r
    obtain ⟨x, e1, H1, rfl, rfl, ⟨rfl, he1, q⟩ | ⟨rfl, p4, q⟩⟩ := rn_of hr (f29_loop l m v u lo' H hv hu hl hm 0 _ _ (Nat.zero_le _) ⟨rfl, rfl, by simp only [gd_eq, gd_ne, ne_eq, not_false_eq_true, Nat.reduceEqDiff, Nat.reduceLT, List.length_set, reduceCtorEq, he, a0, a1], by simp only [gd_eq, gd_ne, ne_eq, not_false_eq_true, Nat.reduceEqDiff, Nat.reduceLT, List.length_set, reduceCtorEq, he, a0, a1], by simp only [gd_eq, gd_ne, ne_eq, not_false_eq_true, Nat.reduceEqDiff, Nat.reduceLT, List.length_set, reduceCtorEq, he, a0, a1], by simp only [gd_eq, gd_ne, ne_eq, not_false_eq_true, Nat.reduceEqDiff, Nat.reduceLT, List.length_set, reduceCtorEq, he, a0, a1], by simp only [gd_eq, gd_ne, ne_eq, not_false_eq_true, Nat.reduceEqDiff, Nat.reduceLT, List.length_set, reduceCtorEq, he, a0, a1]; rfl⟩)
    · have k : decide (l = m) = true := decide_eq_true q
      simp (maxDischargeDepth := 8) -implicitDefEqProofs only [sr1, kA, Q.ev, evQ, evP, evalO, resultsA, tupA, AV.rfL, callV, exists_eq', List.length_set, ne_eq, Nat.reduceEqDiff, Nat.reduceLT, reduceCtorEq, Nat.reduceAdd, List.getElem?_cons_succ, List.getElem?_cons_zero, Option.map, if_true, if_false, beq_self_eq_true, List.length_cons, List.length_nil, List.cons_append, List.nil_append, List.append_nil, ite_self, Int.reduceBNe, Int.reduceBEq, Int.reduceLT, Int.reduceLE, heapFree, hid2, List.flatMap_nil, List.flatMap_cons, List.filter_nil, List.filter_cons, List.contains_cons, List.contains_nil, c29, o29_0, g29_0, o29_1, g29_1, o29_2, g29_2, o29_3, g29_3, o29_4, g29_4, o29_5, g29_5, o29_6a, o29_6b, g29_6, o29_7, g29_7, o29_8, g29_8, o29_9, g29_9, he1, k]
    · have k : decide (l = m) = false := decide_eq_false q
      simp (maxDischargeDepth := 8) -implicitDefEqProofs only [sr1, kA, Q.ev, evQ, evP, evalO, resultsA, tupA, AV.rfL, callV, exists_eq', List.length_set, ne_eq, Nat.reduceEqDiff, Nat.reduceLT, reduceCtorEq, Nat.reduceAdd, List.getElem?_cons_succ, List.getElem?_cons_zero, Option.map, if_true, if_false, beq_self_eq_true, List.length_cons, List.length_nil, List.cons_append, List.nil_append, List.append_nil, ite_self, Int.reduceBNe, Int.reduceBEq, Int.reduceLT, Int.reduceLE, heapFree, hid2, List.flatMap_nil, List.flatMap_cons, List.filter_nil, List.filter_cons, List.contains_cons, List.contains_nil, c29, o29_0, g29_0, o29_1, g29_1, o29_2, g29_2, o29_3, g29_3, o29_4, g29_4, o29_5, g29_5, o29_6a, o29_6b, g29_6, o29_7, g29_7, o29_8, g29_8, o29_9, g29_9, p4, k]
  · have g : decide ((l.length : Int) = m.length) = false := decide_eq_false (by omega)
    have k : decide (l = m) = false := decide_eq_false (by rintro rfl; exact hm rfl)
    simp (maxDischargeDepth := 8) -implicitDefEqProofs only [sr1, kA, Q.ev, evQ, evP, evalO, resultsA, tupA, AV.rfL, callV, exists_eq', List.length_set, ne_eq, Nat.reduceEqDiff, Nat.reduceLT, reduceCtorEq, Nat.reduceAdd, List.getElem?_cons_succ, List.getElem?_cons_zero, Option.map, if_true, if_false, beq_self_eq_true, List.length_cons, List.length_nil, List.cons_append, List.nil_append, List.append_nil, ite_self, Int.reduceBNe, Int.reduceBEq, Int.reduceLT, Int.reduceLE, heapFree, hid2, List.flatMap_nil, List.flatMap_cons, List.filter_nil, List.filter_cons, List.contains_cons, List.contains_nil, c29, o29_0, g29_0, o29_1, g29_1, o29_2, g29_2, o29_3, g29_3, o29_4, g29_4, o29_5, g29_5, o29_6a, o29_6b, g29_6, o29_7, g29_7, o29_8, g29_8, o29_9, g29_9, a0, a1, he, n1, n2, g, k]

theorem bytesOf_map : ∀ l : List UInt8, bytesOfA (l.map fun n => AV.int .u8 (n.toNat : Int)) = some l
  | [] => rfl
  | b :: l => by
    simp only [List.map_cons, bytesOfA, byteOfA, bytesOf_map l, Int.toNat_natCast]
    simp
theorem flat1 (l : List UInt8) : (l.map fun n => AV.int .u8 (n.toNat : Int)).flatMap AV.cells = l.map fun n => AV.int .u8 (n.toNat : Int) := by
  induction l with
  | nil => rfl
  | cons b l ih => simp only [List.map_cons, List.flatMap_cons, ih]; rfl
theorem SvB.elems {H : Heap} {v : AV} {l : List UInt8} (h : SvB H v l) : elemsA H 1 v = some (l.map fun n => AV.int .u8 (n.toNat : Int)) ∧ lenA H v = some l.length ∧ ((∃ a c s x, v = .rsl a c s x) ∨ ∃ b i n s, v = .sl b i n s) := by
  obtain ⟨h0, ⟨a, cap, s, rfl, hs⟩ | ⟨b, i, t, c, rfl, h2, h3, h4, h5⟩⟩ := h
  · refine ⟨?_, by simp only [lenA, List.length_map], .inl ⟨_, _, _, _, rfl⟩⟩
    by_cases hn : (l.map fun n => AV.int .u8 (n.toNat : Int)) = []
    · have : l = [] := by simpa using hn
      subst this; simp [elemsA]
    · rw [(hs hn).2]
      simp only [elemsA, decide_true, Bool.true_or, if_true, flat1]
  · refine ⟨?_, by simp only [lenA, List.length_map], .inr ⟨_, _, _, _, rfl⟩⟩
    simp only [elemsA, h3, decide_true, Bool.true_and]
    rw [← Nat.add_mul, if_pos (by simpa using h4), h5, flat1]
theorem cvB {H : Heap} {v : AV} {l : List UInt8} (h : SvB H v l) : convertA Try.prog H 37 9 v = some (.str ⟨l.toArray⟩, H) := by
  obtain ⟨h1, h2, h3⟩ := h.elems
  have hu : isU8 Try.prog 5 = true := by unfold isU8; rw [Try.underlying5]
  rcases h3 with ⟨a, c, s, x, rfl⟩ | ⟨b, i, n, s, rfl⟩ <;> simp only [convertA, Try.underlying37, Try.underlying9, hu, if_true, h1, h2, List.length_map, bytesOf_map]
theorem f32_run (l m : List UInt8) (v u : AV) (lo : Nat) (H : Heap) (hv : SvB H v l) (hu : SvB H u m) : callA Try.prog (om Try.prog) lo 32 [v, u] H = some (.bool (decide (l = m)), H) := by
  obtain ⟨e, he, a0, a1, hc⟩ := c32_in v u lo H
  rw [hc]
  generalize AV.rfL [v, u] = c
  have c1 := cvB hv
  have c2 := cvB hu
  have k : decide ((⟨l.toArray⟩ : ByteArray) = ⟨m.toArray⟩) = decide (l = m) := by
    congr 1
    simp
  simp (maxDischargeDepth := 8) -implicitDefEqProofs only [sr1, kA, Q.ev, evQ, evP, evalO, resultsA, tupA, AV.rfL, callV, exists_eq', List.length_set, ne_eq, Nat.reduceEqDiff, Nat.reduceLT, reduceCtorEq, Nat.reduceAdd, List.getElem?_cons_succ, List.getElem?_cons_zero, Option.map, if_true, if_false, beq_self_eq_true, List.length_cons, List.length_nil, List.cons_append, List.nil_append, List.append_nil, ite_self, Int.reduceBNe, Int.reduceBEq, Int.reduceLT, Int.reduceLE, heapFree, hid2, List.flatMap_nil, List.flatMap_cons, List.filter_nil, List.filter_cons, List.contains_cons, List.contains_nil, c32, o32_0, g32_0, o32_1, g32_1, opA, aop, Option.bind, a0, a1, he, c1, c2, k]
theorem f31_run (x y : Sec) (b d : AV) (lo : Nat) (H : Heap) (hb : SvB H b x.bytes) (hd : SvB H d y.bytes) : callA Try.prog (om Try.prog) lo 31 [secV x b, secV y d] H = some (.bool (decide (x = y)), H) := by
  obtain ⟨e, he, a0, a1, hc⟩ := c31_in (secV x b) (secV y d) lo H
  rw [hc]
  generalize AV.rfL [secV x b, secV y d] = c
  generalize (if c = true then H.next else lo) = lo'
  have lb := lfb x b (Sv.leaf hb).2
  have ld := lfb y d (Sv.leaf hd).2
  have ex : Ext H ((H.push (.cells 39 [.str x.name, .int .i64 x.align, b])).push (.cells 39 [.str y.name, .int .i64 y.align, d])) := ((Ext.refl H).push _).push _
  have fr := f32_run x.bytes y.bytes b d lo' _ (Sv.ext hb ex) (Sv.ext hd ex)
  have k : decide (x = y) = (decide (x.name = y.name) && (decide (x.align = y.align) && decide (x.bytes = y.bytes))) := by
    cases x; cases y
    simp only [Sec.mk.injEq, ← Bool.decide_and]
  rw [k]
  generalize g1 : decide (x.name = y.name) = k1
  generalize g2 : decide (x.align = y.align) = k2
  simp (maxDischargeDepth := 8) -implicitDefEqProofs only [sr1, kA, Q.ev, evQ, evP, evalO, resultsA, tupA, AV.rfL, callV, exists_eq', List.length_set, ne_eq, Nat.reduceEqDiff, Nat.reduceLT, reduceCtorEq, Nat.reduceAdd, List.getElem?_cons_succ, List.getElem?_cons_zero, Option.map, if_true, if_false, beq_self_eq_true, List.length_cons, List.length_nil, List.cons_append, List.nil_append, List.append_nil, ite_self, Int.reduceBNe, Int.reduceBEq, Int.reduceLT, Int.reduceLE, heapFree, hid2, List.flatMap_nil, List.flatMap_cons, List.filter_nil, List.filter_cons, List.contains_cons, List.contains_nil, c31, o31_0, g31_0, o31_1, g31_1, secV, a0, a1, he, lb, ld, Heap.get_push, nx_l, g1, g2, fr]
  cases k1 <;> simp (maxDischargeDepth := 8) -implicitDefEqProofs only [sr1, kA, Q.ev, evQ, evP, evalO, resultsA, tupA, AV.rfL, callV, exists_eq', List.length_set, ne_eq, Nat.reduceEqDiff, Nat.reduceLT, reduceCtorEq, Nat.reduceAdd, List.getElem?_cons_succ, List.getElem?_cons_zero, Option.map, if_true, if_false, beq_self_eq_true, List.length_cons, List.length_nil, List.cons_append, List.nil_append, List.append_nil, ite_self, Int.reduceBNe, Int.reduceBEq, Int.reduceLT, Int.reduceLE, heapFree, hid2, List.flatMap_nil, List.flatMap_cons, List.filter_nil, List.filter_cons, List.contains_cons, List.contains_nil, c31, o31_0, g31_0, o31_1, g31_1, secV, a0, a1, he, lb, ld, Heap.get_push, nx_l, g1, g2, fr]
  cases k2 <;> simp (maxDischargeDepth := 8) -implicitDefEqProofs only [sr1, kA, Q.ev, evQ, evP, evalO, resultsA, tupA, AV.rfL, callV, exists_eq', List.length_set, ne_eq, Nat.reduceEqDiff, Nat.reduceLT, reduceCtorEq, Nat.reduceAdd, List.getElem?_cons_succ, List.getElem?_cons_zero, Option.map, if_true, if_false, beq_self_eq_true, List.length_cons, List.length_nil, List.cons_append, List.nil_append, List.append_nil, ite_self, Int.reduceBNe, Int.reduceBEq, Int.reduceLT, Int.reduceLE, heapFree, hid2, List.flatMap_nil, List.flatMap_cons, List.filter_nil, List.filter_cons, List.contains_cons, List.contains_nil, c31, o31_0, g31_0, o31_1, g31_1, secV, a0, a1, he, lb, ld, Heap.get_push, nx_l, g1, g2, fr]
set_option maxHeartbeats 4000000 in
theorem f30_loop (l m : List Sec) (v u : AV) (lo : Nat) (H0 : Heap) (hv : SvS H0 v l) (hu : SvS H0 u m) (hl : l.length < 2 ^ 62) (hm : l.length = m.length) (hlo : lo ≤ H0.next) : ∀ i e H', i ≤ l.length →
    (Ext H0 H' ∧ l.take i = m.take i ∧ e.length = 32 ∧ gd e 1 = u ∧ gd e 2 = .func 31 [] [] ∧ gd e 15 = v ∧ gd e 16 = .int .i64 l.length ∧ gd e 17 = .int .i64 i) →
    Rn (om Try.prog ⟨30, none⟩ lo c30_l0 ⟨e, [], H'⟩) fun x e' H' => Ext H0 H' ∧ (x = .exit 0 ∧ e'.length = 32 ∧ l = m ∨ x = .ret ∧ gd e' 6 = .bool false ∧ ¬ l = m) := by
  refine loop_rn l.length _ _ ?_
  rintro i e H' hi ⟨hx, ht, he, a1, a2, a15, a16, a17⟩
  by_cases h : i < l.length
  · have h' : i < m.length := by omega
    have hd : decide ((i : Int) < l.length) = true := decide_eq_true (by omega)
    obtain ⟨q, bb, q2, i1, i2, i3, i4, i5⟩ := (hv.ext hx).ix (List.getElem?_eq_getElem h)
    have x1 : Ext H' ((H'.push (.cells 39 [.str ByteArray.empty, .int .i64 0, .rsl none 0 0 []])).set H'.next (.cells 39 (secV l[i] bb).cells)) := ((Ext.refl H').push _).set (Nat.le_refl _) _
    generalize hH : ((H'.push (.cells 39 [.str ByteArray.empty, .int .i64 0, .rsl none 0 0 []])).set H'.next (.cells 39 (secV l[i] bb).cells)) = H2 at x1
    have hn2 : H2.next = H'.next + 1 := by rw [← hH]; rfl
    have g2 : H2.get H'.next = some (.cells 39 (secV l[i] bb).cells) := by rw [← hH, Heap.get_set, if_pos rfl]
    obtain ⟨p, dd, p2, j1, j2, j3, j4, j5⟩ := (hu.ext (hx.trans x1)).ix (List.getElem?_eq_getElem h')
    have x2 : Ext H2 ((H2.push (.cells 39 [.str ByteArray.empty, .int .i64 0, .rsl none 0 0 []])).set H2.next (.cells 39 (secV m[i] dd).cells)) := ((Ext.refl H2).push _).set (Nat.le_refl _) _
    generalize hH2 : ((H2.push (.cells 39 [.str ByteArray.empty, .int .i64 0, .rsl none 0 0 []])).set H2.next (.cells 39 (secV m[i] dd).cells)) = H3 at x2
    have g3 : H3.get H2.next = some (.cells 39 (secV m[i] dd).cells) := by rw [← hH2, Heap.get_set, if_pos rfl]
    have g4 : H3.get H'.next = some (.cells 39 (secV l[i] bb).cells) := by rw [x2.2.1 _ (by omega)]; exact g2
    have lb : leafA bb = true := (Sv.leaf i3).2
    have ld : leafA dd = true := (Sv.leaf j3).2
    have lfs : leafs (secV l[i] bb).cells = true := lfb _ _ lb
    have lfs2 : leafs (secV m[i] dd).cells = true := lfb _ _ ld
    have cls : (secV l[i] bb).cells.length = 3 := rfl
    have cls2 : (secV m[i] dd).cells.length = 3 := rfl
    have tk : AV.agg (List.take 3 (secV l[i] bb).cells) = secV l[i] bb := rfl
    have tk2 : AV.agg (List.take 3 (secV m[i] dd).cells) = secV m[i] dd := rfl
    have hlo' : lo ≤ H'.next := Nat.le_trans hlo hx.1
    have hlo2 : lo ≤ H2.next := Nat.le_trans hlo' x1.1
    have fr := f31_run l[i] m[i] bb dd lo H3 (Sv.ext (Sv.ext i3 x1) x2) (Sv.ext j3 x2)
    have w1 : IntKind.i64.wrap ((i : Int) + 1) = ((i + 1 : Nat) : Int) := by rw [wi64 (by omega) (by omega)]; push_cast; rfl
    have hxx := (hx.trans x1).trans x2
    by_cases g : l[i] = m[i]
    · rw [decide_eq_true g] at fr
      have hz := (take_eq h h' ht).2 g
      simp (maxDischargeDepth := 8) -implicitDefEqProofs only [sr1, kA, Q.ev, evQ, evP, evalO, resultsA, tupA, AV.rfL, callV, exists_eq', List.length_set, ne_eq, Nat.reduceEqDiff, Nat.reduceLT, reduceCtorEq, Nat.reduceAdd, List.getElem?_cons_succ, List.getElem?_cons_zero, Option.map, if_true, if_false, beq_self_eq_true, List.length_cons, List.length_nil, List.cons_append, List.nil_append, List.append_nil, ite_self, Int.reduceBNe, Int.reduceBEq, Int.reduceLT, Int.reduceLE, heapFree, hid2, List.flatMap_nil, List.flatMap_cons, List.filter_nil, List.filter_cons, List.contains_cons, List.contains_nil, c30, o30_0, g30_0, o30_1, g30_1, o30_2, g30_2, o30_3, g30_3, o30_4, g30_4, o30_5, g30_5, o30_6, g30_6, o30_7, g30_7, o30_8, g30_8, o30_9, g30_9, o30_10, g30_10, c30_b0, a1, a2, a15, a16, a17, he, hd, i1, i2, j1, j2, lfs, cls, lfs2, cls2, hlo', hlo2, hH, hH2, g3, g4, List.drop_zero, tk, tk2, fr, w1, h, hz, hxx]
    · rw [decide_eq_false g] at fr
      simp (maxDischargeDepth := 8) -implicitDefEqProofs only [sr1, kA, Q.ev, evQ, evP, evalO, resultsA, tupA, AV.rfL, callV, exists_eq', List.length_set, ne_eq, Nat.reduceEqDiff, Nat.reduceLT, reduceCtorEq, Nat.reduceAdd, List.getElem?_cons_succ, List.getElem?_cons_zero, Option.map, if_true, if_false, beq_self_eq_true, List.length_cons, List.length_nil, List.cons_append, List.nil_append, List.append_nil, ite_self, Int.reduceBNe, Int.reduceBEq, Int.reduceLT, Int.reduceLE, heapFree, hid2, List.flatMap_nil, List.flatMap_cons, List.filter_nil, List.filter_cons, List.contains_cons, List.contains_nil, c30, o30_0, g30_0, o30_1, g30_1, o30_2, g30_2, o30_3, g30_3, o30_4, g30_4, o30_5, g30_5, o30_6, g30_6, o30_7, g30_7, o30_8, g30_8, o30_9, g30_9, o30_10, g30_10, c30_b0, a1, a2, a15, a16, a17, he, hd, i1, i2, j1, j2, lfs, cls, lfs2, cls2, hlo', hlo2, hH, hH2, g3, g4, List.drop_zero, tk, tk2, fr, hxx]
      exact ne_at h h' g
  · obtain rfl : i = l.length := by omega
    have hd : decide ((l.length : Int) < l.length) = false := decide_eq_false (by omega)
    rw [List.take_length, List.take_of_length_le (by omega)] at ht
    simp (maxDischargeDepth := 8) -implicitDefEqProofs only [sr1, kA, Q.ev, evQ, evP, evalO, resultsA, tupA, AV.rfL, callV, exists_eq', List.length_set, ne_eq, Nat.reduceEqDiff, Nat.reduceLT, reduceCtorEq, Nat.reduceAdd, List.getElem?_cons_succ, List.getElem?_cons_zero, Option.map, if_true, if_false, beq_self_eq_true, List.length_cons, List.length_nil, List.cons_append, List.nil_append, List.append_nil, ite_self, Int.reduceBNe, Int.reduceBEq, Int.reduceLT, Int.reduceLE, heapFree, hid2, List.flatMap_nil, List.flatMap_cons, List.filter_nil, List.filter_cons, List.contains_cons, List.contains_nil, c30, o30_0, g30_0, o30_1, g30_1, o30_2, g30_2, o30_3, g30_3, o30_4, g30_4, o30_5, g30_5, o30_6, g30_6, o30_7, g30_7, o30_8, g30_8, o30_9, g30_9, o30_10, g30_10, c30_b0, a1, a2, a15, a16, a17, he, hd, hx]
    exact ht
theorem f30_run (l m : List Sec) (v u : AV) (lo : Nat) (H : Heap) (hv : SvS H v l) (hu : SvS H u m) (hl : l.length < 2 ^ 62) (hlo : lo ≤ H.next) : callA Try.prog (om Try.prog) lo 30 [v, u, .func 31 [] []] H = some (.bool (decide (l = m)), H) := by
  obtain ⟨e, he, a0, a1, a2, hc⟩ := c30_in v u (.func 31 [] []) lo H
  rw [hc]
  generalize AV.rfL [v, u, .func 31 [] []] = c
  generalize hlq : (if c = true then H.next else lo) = lo'
  have hlo' : lo' ≤ H.next := by rw [← hlq]; split <;> omega
  have n1 := hv.lenl
  have n2 := hu.lenl
  by_cases hm : l.length = m.length
  · have g : decide ((l.length : Int) = m.length) = true := decide_eq_true (by omega)
    simp (maxDischargeDepth := 8) -implicitDefEqProofs only [sr1, kA, Q.ev, evQ, evP, evalO, resultsA, tupA, AV.rfL, callV, exists_eq', List.length_set, ne_eq, Nat.reduceEqDiff, Nat.reduceLT, reduceCtorEq, Nat.reduceAdd, List.getElem?_cons_succ, List.getElem?_cons_zero, Option.map, if_true, if_false, beq_self_eq_true, List.length_cons, List.length_nil, List.cons_append, List.nil_append, List.append_nil, ite_self, Int.reduceBNe, Int.reduceBEq, Int.reduceLT, Int.reduceLE, heapFree, hid2, List.flatMap_nil, List.flatMap_cons, List.filter_nil, List.filter_cons, List.contains_cons, List.contains_nil, c30, o30_0, g30_0, o30_1, g30_1, o30_2, g30_2, o30_3, g30_3, o30_4, g30_4, o30_5, g30_5, o30_6, g30_6, o30_7, g30_7, o30_8, g30_8, o30_9, g30_9, o30_10, g30_10, a0, a1, a2, he, n1, n2, g]
    generalize hr : om Try.prog _ _ c30_l0 _ = r
    obtain ⟨x, e1, H1, rfl, hx, ⟨rfl, he1, q⟩ | ⟨rfl, p4, q⟩⟩ := rn_of hr (f30_loop l m v u lo' H hv hu hl hm hlo' 0 _ _ (Nat.zero_le _) ⟨Ext.refl _, rfl, by simp only [gd_eq, gd_ne, ne_eq, not_false_eq_true, Nat.reduceEqDiff, Nat.reduceLT, List.length_set, reduceCtorEq, he, a0, a1], by simp only [gd_eq, gd_ne, ne_eq, not_false_eq_true, Nat.reduceEqDiff, Nat.reduceLT, List.length_set, reduceCtorEq, he, a0, a1], by simp only [gd_eq, gd_ne, ne_eq, not_false_eq_true, Nat.reduceEqDiff, Nat.reduceLT, List.length_set, reduceCtorEq, he, a0, a1, a2], by simp only [gd_eq, gd_ne, ne_eq, not_false_eq_true, Nat.reduceEqDiff, Nat.reduceLT, List.length_set, reduceCtorEq, he, a0, a1], by simp only [gd_eq, gd_ne, ne_eq, not_false_eq_true, Nat.reduceEqDiff, Nat.reduceLT, List.length_set, reduceCtorEq, he, a0, a1], by simp only [gd_eq, gd_ne, ne_eq, not_false_eq_true, Nat.reduceEqDiff, Nat.reduceLT, List.length_set, reduceCtorEq, he, a0, a1]; rfl⟩)
    · have k : decide (l = m) = true := decide_eq_true q
      have hu := unch_ext hx
      simp (maxDischargeDepth := 8) -implicitDefEqProofs only [sr1, kA, Q.ev, evQ, evP, evalO, resultsA, tupA, AV.rfL, callV, exists_eq', List.length_set, ne_eq, Nat.reduceEqDiff, Nat.reduceLT, reduceCtorEq, Nat.reduceAdd, List.getElem?_cons_succ, List.getElem?_cons_zero, Option.map, if_true, if_false, beq_self_eq_true, List.length_cons, List.length_nil, List.cons_append, List.nil_append, List.append_nil, ite_self, Int.reduceBNe, Int.reduceBEq, Int.reduceLT, Int.reduceLE, heapFree, hid2, List.flatMap_nil, List.flatMap_cons, List.filter_nil, List.filter_cons, List.contains_cons, List.contains_nil, c30, o30_0, g30_0, o30_1, g30_1, o30_2, g30_2, o30_3, g30_3, o30_4, g30_4, o30_5, g30_5, o30_6, g30_6, o30_7, g30_7, o30_8, g30_8, o30_9, g30_9, o30_10, g30_10, he1, k, hu]
    · have k : decide (l = m) = false := decide_eq_false q
      have hu := unch_ext hx
      simp (maxDischargeDepth := 8) -implicitDefEqProofs only [sr1, kA, Q.ev, evQ, evP, evalO, resultsA, tupA, AV.rfL, callV, exists_eq', List.length_set, ne_eq, Nat.reduceEqDiff, Nat.reduceLT, reduceCtorEq, Nat.reduceAdd, List.getElem?_cons_succ, List.getElem?_cons_zero, Option.map, if_true, if_false, beq_self_eq_true, List.length_cons, List.length_nil, List.cons_append, List.nil_append, List.append_nil, ite_self, Int.reduceBNe, Int.reduceBEq, Int.reduceLT, Int.reduceLE, heapFree, hid2, List.flatMap_nil, List.flatMap_cons, List.filter_nil, List.filter_cons, List.contains_cons, List.contains_nil, c30, o30_0, g30_0, o30_1, g30_1, o30_2, g30_2, o30_3, g30_3, o30_4, g30_4, o30_5, g30_5, o30_6, g30_6, o30_7, g30_7, o30_8, g30_8, o30_9, g30_9, o30_10, g30_10, p4, k, hu]
  · have g : decide ((l.length : Int) = m.length) = false := decide_eq_false (by omega)
    have k : decide (l = m) = false := decide_eq_false (by rintro rfl; exact hm rfl)
    simp (maxDischargeDepth := 8) -implicitDefEqProofs only [sr1, kA, Q.ev, evQ, evP, evalO, resultsA, tupA, AV.rfL, callV, exists_eq', List.length_set, ne_eq, Nat.reduceEqDiff, Nat.reduceLT, reduceCtorEq, Nat.reduceAdd, List.getElem?_cons_succ, List.getElem?_cons_zero, Option.map, if_true, if_false, beq_self_eq_true, List.length_cons, List.length_nil, List.cons_append, List.nil_append, List.append_nil, ite_self, Int.reduceBNe, Int.reduceBEq, Int.reduceLT, Int.reduceLE, heapFree, hid2, List.flatMap_nil, List.flatMap_cons, List.filter_nil, List.filter_cons, List.contains_cons, List.contains_nil, c30, o30_0, g30_0, o30_1, g30_1, o30_2, g30_2, o30_3, g30_3, o30_4, g30_4, o30_5, g30_5, o30_6, g30_6, o30_7, g30_7, o30_8, g30_8, o30_9, g30_9, o30_10, g30_10, a0, a1, a2, he, n1, n2, g, k]
theorem obj_eq (a b : Obj) : decide (a = b) = (decide (a.machine = b.machine) && (decide (a.syms = b.syms) && (decide (a.rels = b.rels) && decide (a.secs = b.secs)))) := by
  cases a; cases b
  simp only [Obj.mk.injEq, ← Bool.decide_and]
  congr 1
  exact propext ⟨fun ⟨h1, h2, h3, h4⟩ => ⟨h1, h3, h4, h2⟩, fun ⟨h1, h3, h4, h2⟩ => ⟨h1, h2, h3, h4⟩⟩
set_option maxHeartbeats 4000000 in
theorem same_run (v w : AV) (a b : Obj) (H : Heap) (hA : RdO H v a) (hB : RdO H w b) (hs : Sm a) (lo : Nat) (hlo : lo ≤ H.next) : callA Try.prog (om Try.prog) lo 11 [v, w] H = some (.bool (decide (a = b)), H) := by
  obtain ⟨vs, vy, vr, rfl, h1, h2, h3⟩ := hA
  obtain ⟨ws, wy, wr, rfl, k1, k2, k3⟩ := hB
  obtain ⟨e, he, a0, a1, hc⟩ := c11_in (.agg [.str a.machine, vs, vy, vr]) (.agg [.str b.machine, ws, wy, wr]) lo H
  rw [hc]
  have lf := obj_leafs h1 h2 h3
  have lf2 := obj_leafs k1 k2 k3
  have ex : Ext H ((H.push (.cells 26 [.str a.machine, vs, vy, vr])).push (.cells 26 [.str b.machine, ws, wy, wr])) := ((Ext.refl H).push _).push _
  generalize AV.rfL [AV.agg [.str a.machine, vs, vy, vr], AV.agg [.str b.machine, ws, wy, wr]] = c
  generalize hlq : (if c = true then H.next else lo) = lo'
  have hlo' : lo' ≤ ((H.push (.cells 26 [.str a.machine, vs, vy, vr])).push (.cells 26 [.str b.machine, ws, wy, wr])).next := by rw [← hlq]; have : ((H.push (.cells 26 [.str a.machine, vs, vy, vr])).push (.cells 26 [.str b.machine, ws, wy, wr])).next = H.next + 2 := rfl; split <;> omega
  have r1 := f28_run a.syms b.syms vy wy lo' _ (Sv.ext h2 ex) (Sv.ext k2 ex) hs.y
  have r2 := f29_run a.rels b.rels vr wr lo' _ (Sv.ext h3 ex) (Sv.ext k3 ex) hs.r
  have r3 := f30_run a.secs b.secs vs ws lo' _ (h1.ext ex) (k1.ext ex) hs.s hlo'
  rw [obj_eq]
  generalize g1 : decide (a.machine = b.machine) = m1
  generalize g2 : decide (a.syms = b.syms) = m2 at r1 ⊢
  generalize g3 : decide (a.rels = b.rels) = m3 at r2 ⊢
  simp (maxDischargeDepth := 8) -implicitDefEqProofs only [sr1, kA, Q.ev, evQ, evP, evalO, resultsA, tupA, AV.rfL, callV, exists_eq', List.length_set, ne_eq, Nat.reduceEqDiff, Nat.reduceLT, reduceCtorEq, Nat.reduceAdd, List.getElem?_cons_succ, List.getElem?_cons_zero, Option.map, if_true, if_false, beq_self_eq_true, List.length_cons, List.length_nil, List.cons_append, List.nil_append, List.append_nil, ite_self, Int.reduceBNe, Int.reduceBEq, Int.reduceLT, Int.reduceLE, heapFree, hid2, List.flatMap_nil, List.flatMap_cons, List.filter_nil, List.filter_cons, List.contains_cons, List.contains_nil, c11, o11_0, g11_0, o11_1, g11_1, a0, a1, he, lf, lf2, Heap.get_push, nx_l, g1, r1, r2, r3]
  cases m1 <;> simp (maxDischargeDepth := 8) -implicitDefEqProofs only [sr1, kA, Q.ev, evQ, evP, evalO, resultsA, tupA, AV.rfL, callV, exists_eq', List.length_set, ne_eq, Nat.reduceEqDiff, Nat.reduceLT, reduceCtorEq, Nat.reduceAdd, List.getElem?_cons_succ, List.getElem?_cons_zero, Option.map, if_true, if_false, beq_self_eq_true, List.length_cons, List.length_nil, List.cons_append, List.nil_append, List.append_nil, ite_self, Int.reduceBNe, Int.reduceBEq, Int.reduceLT, Int.reduceLE, heapFree, hid2, List.flatMap_nil, List.flatMap_cons, List.filter_nil, List.filter_cons, List.contains_cons, List.contains_nil, c11, o11_0, g11_0, o11_1, g11_1, a0, a1, he, lf, lf2, Heap.get_push, nx_l, g1, r1, r2, r3]
  cases m2 <;> simp (maxDischargeDepth := 8) -implicitDefEqProofs only [sr1, kA, Q.ev, evQ, evP, evalO, resultsA, tupA, AV.rfL, callV, exists_eq', List.length_set, ne_eq, Nat.reduceEqDiff, Nat.reduceLT, reduceCtorEq, Nat.reduceAdd, List.getElem?_cons_succ, List.getElem?_cons_zero, Option.map, if_true, if_false, beq_self_eq_true, List.length_cons, List.length_nil, List.cons_append, List.nil_append, List.append_nil, ite_self, Int.reduceBNe, Int.reduceBEq, Int.reduceLT, Int.reduceLE, heapFree, hid2, List.flatMap_nil, List.flatMap_cons, List.filter_nil, List.filter_cons, List.contains_cons, List.contains_nil, c11, o11_0, g11_0, o11_1, g11_1, a0, a1, he, lf, lf2, Heap.get_push, nx_l, g1, r1, r2, r3]
  cases m3 <;> simp (maxDischargeDepth := 8) -implicitDefEqProofs only [sr1, kA, Q.ev, evQ, evP, evalO, resultsA, tupA, AV.rfL, callV, exists_eq', List.length_set, ne_eq, Nat.reduceEqDiff, Nat.reduceLT, reduceCtorEq, Nat.reduceAdd, List.getElem?_cons_succ, List.getElem?_cons_zero, Option.map, if_true, if_false, beq_self_eq_true, List.length_cons, List.length_nil, List.cons_append, List.nil_append, List.append_nil, ite_self, Int.reduceBNe, Int.reduceBEq, Int.reduceLT, Int.reduceLE, heapFree, hid2, List.flatMap_nil, List.flatMap_cons, List.filter_nil, List.filter_cons, List.contains_cons, List.contains_nil, c11, o11_0, g11_0, o11_1, g11_1, a0, a1, he, lf, lf2, Heap.get_push, nx_l, g1, r1, r2, r3]
end Go.Proofs.Ytejmfbeiejlgkaa.obj
/-! The functions below the Object laws, P11: the reference's comparison. Conditions: in each statement. -/
namespace Go.Proofs.Ytejmfbeiejlgkaa.obj
open Go Go.Ab
set_option maxRecDepth 100000
set_option linter.unusedSimpArgs false
set_option linter.unusedVariables false
/-- both objects' boxes -/
structure Two (H : Heap) (p q : Nat) (a b : Obj) (vs vy vr ws wy wr : AV) : Prop where
  a : Box H p a vs vy vr
  b : Box H q b ws wy wr
theorem Two.ext {H H' : Heap} {p q : Nat} {a b : Obj} {vs vy vr ws wy wr : AV} (h : Two H p q a b vs vy vr ws wy wr) (k : Ext H H') : Two H' p q a b vs vy vr ws wy wr := ⟨h.a.ext k, h.b.ext k⟩
theorem u8dec (x y : UInt8) : decide ((x.toNat : Int) = y.toNat) = decide (x = y) := by
  congr 1
  refine propext ⟨fun h => ?_, fun h => by rw [h]⟩
  exact UInt8.toNat_inj.1 (by omega)
set_option maxHeartbeats 4000000 in
theorem same2_l1 (lo : Nat) (H : Heap) (p q c d : Nat) (l m : List UInt8) (u w s0 s1 t0 t1 : AV) (ts tt : TypeId) (hl : l.length < 2 ^ 62) (hm : l.length = m.length) (hc : H.get c = some (.cells ts [s0, s1, u])) (hd : H.get d = some (.cells tt [t0, t1, w])) (hu : SvB H u l) (hw : SvB H w m) (n : Int) : ∀ k e H', k ≤ l.length →
    (H' = H ∧ l.take k = m.take k ∧ e.length = 135 ∧ gd e 2 = .ptr p 0 ∧ gd e 3 = .ptr q 0 ∧ gd e 5 = .int .i64 n ∧ gd e 6 = .ptr c 0 ∧ gd e 7 = .ptr d 0 ∧ gd e 8 = .int .i64 k) →
    Rn (om Try.prog ⟨12, none⟩ lo c12_l1 ⟨e, [], H'⟩) fun x e' H' => H' = H ∧ (x = .exit 2 ∧ l = m ∧ e'.length = 135 ∧ gd e' 2 = .ptr p 0 ∧ gd e' 3 = .ptr q 0 ∧ gd e' 5 = .int .i64 n ∨ x = .ret ∧ gd e' 4 = .bool false ∧ ¬ l = m) := by
  refine loop_rn l.length _ _ ?_
  rintro k e H' hk ⟨rfl, ht, he, a2, a3, a5, a6, a7, a8⟩
  have n1 := hu.lenl
  by_cases h : k < l.length
  · have h' : k < m.length := by omega
    have hdd : decide ((k : Int) < l.length) = true := decide_eq_true (by omega)
    obtain ⟨x, i1, i2⟩ := hu.ix (List.getElem?_eq_getElem h)
    obtain ⟨y, j1, j2⟩ := hw.ix (List.getElem?_eq_getElem h')
    have w1 : IntKind.i64.wrap ((k : Int) + 1) = ((k + 1 : Nat) : Int) := by rw [wi64 (by omega) (by omega)]; push_cast; rfl
    have hne := u8dec l[k] m[k]
    by_cases g : l[k] = m[k]
    · rw [decide_eq_true g] at hne
      have hz := (take_eq h h' ht).2 g
      simp (maxDischargeDepth := 8) -implicitDefEqProofs only [sr1, kA, Q.ev, evQ, evP, evalO, resultsA, tupA, AV.rfL, callV, exists_eq', List.length_set, ne_eq, Nat.reduceEqDiff, Nat.reduceLT, reduceCtorEq, Nat.reduceAdd, List.getElem?_cons_succ, List.getElem?_cons_zero, Option.map, if_true, if_false, beq_self_eq_true, List.length_cons, List.length_nil, List.cons_append, List.nil_append, List.append_nil, ite_self, Int.reduceBNe, Int.reduceBEq, Int.reduceLT, Int.reduceLE, heapFree, hid2, List.flatMap_nil, List.flatMap_cons, List.filter_nil, List.filter_cons, List.contains_cons, List.contains_nil, c12, o12_0, g12_0, o12_1, g12_1, o12_2, g12_2, o12_3, g12_3, o12_4, g12_4, o12_6a, o12_6b, u12_6, g12_6, o12_7, g12_7, o12_8, g12_8, o12_9, g12_9, o12_10, g12_10, o12_12a, o12_12b, g12_12, o12_13, g12_13, o12_11, g12_11, o12_5, g12_5, o12_14, g12_14, o12_15, g12_15, o12_17a, o12_17b, g12_17, o12_18, g12_18, o12_16, g12_16, o12_19, g12_19, o12_20, g12_20, o12_22a, o12_22b, g12_22, o12_23, g12_23, o12_21, g12_21, o12_24, g12_24, he, Heap.get_push, Heap.get_set, nx_l, c12_b1, a2, a3, a5, a6, a7, a8, hc, hd, n1, hdd, i1, i2, j1, j2, hne, w1, h, hz]
    · rw [decide_eq_false g] at hne
      simp (maxDischargeDepth := 8) -implicitDefEqProofs only [sr1, kA, Q.ev, evQ, evP, evalO, resultsA, tupA, AV.rfL, callV, exists_eq', List.length_set, ne_eq, Nat.reduceEqDiff, Nat.reduceLT, reduceCtorEq, Nat.reduceAdd, List.getElem?_cons_succ, List.getElem?_cons_zero, Option.map, if_true, if_false, beq_self_eq_true, List.length_cons, List.length_nil, List.cons_append, List.nil_append, List.append_nil, ite_self, Int.reduceBNe, Int.reduceBEq, Int.reduceLT, Int.reduceLE, heapFree, hid2, List.flatMap_nil, List.flatMap_cons, List.filter_nil, List.filter_cons, List.contains_cons, List.contains_nil, c12, o12_0, g12_0, o12_1, g12_1, o12_2, g12_2, o12_3, g12_3, o12_4, g12_4, o12_6a, o12_6b, u12_6, g12_6, o12_7, g12_7, o12_8, g12_8, o12_9, g12_9, o12_10, g12_10, o12_12a, o12_12b, g12_12, o12_13, g12_13, o12_11, g12_11, o12_5, g12_5, o12_14, g12_14, o12_15, g12_15, o12_17a, o12_17b, g12_17, o12_18, g12_18, o12_16, g12_16, o12_19, g12_19, o12_20, g12_20, o12_22a, o12_22b, g12_22, o12_23, g12_23, o12_21, g12_21, o12_24, g12_24, he, Heap.get_push, Heap.get_set, nx_l, c12_b1, a2, a3, a5, a6, a7, a8, hc, hd, n1, hdd, i1, i2, j1, j2, hne]
      exact ne_at h h' g
  · obtain rfl : k = l.length := by omega
    have hdd : decide ((l.length : Int) < l.length) = false := decide_eq_false (by omega)
    rw [List.take_length, List.take_of_length_le (by omega)] at ht
    simp (maxDischargeDepth := 8) -implicitDefEqProofs only [sr1, kA, Q.ev, evQ, evP, evalO, resultsA, tupA, AV.rfL, callV, exists_eq', List.length_set, ne_eq, Nat.reduceEqDiff, Nat.reduceLT, reduceCtorEq, Nat.reduceAdd, List.getElem?_cons_succ, List.getElem?_cons_zero, Option.map, if_true, if_false, beq_self_eq_true, List.length_cons, List.length_nil, List.cons_append, List.nil_append, List.append_nil, ite_self, Int.reduceBNe, Int.reduceBEq, Int.reduceLT, Int.reduceLE, heapFree, hid2, List.flatMap_nil, List.flatMap_cons, List.filter_nil, List.filter_cons, List.contains_cons, List.contains_nil, c12, o12_0, g12_0, o12_1, g12_1, o12_2, g12_2, o12_3, g12_3, o12_4, g12_4, o12_6a, o12_6b, u12_6, g12_6, o12_7, g12_7, o12_8, g12_8, o12_9, g12_9, o12_10, g12_10, o12_12a, o12_12b, g12_12, o12_13, g12_13, o12_11, g12_11, o12_5, g12_5, o12_14, g12_14, o12_15, g12_15, o12_17a, o12_17b, g12_17, o12_18, g12_18, o12_16, g12_16, o12_19, g12_19, o12_20, g12_20, o12_22a, o12_22b, g12_22, o12_23, g12_23, o12_21, g12_21, o12_24, g12_24, he, Heap.get_push, Heap.get_set, nx_l, c12_b1, a2, a3, a5, a6, a7, a8, hc, hd, n1, hdd]
    exact ht
set_option maxHeartbeats 8000000 in
theorem same2_l0 (a b : Obj) (p q lo : Nat) (vs vy vr ws wy wr : AV) (hl : a.secs.length < 2 ^ 62) (hby : ∀ s ∈ a.secs, s.bytes.length < 2 ^ 62) (hm : a.secs.length = b.secs.length) (H0 : Heap) (hb : Two H0 p q a b vs vy vr ws wy wr) (hlo : lo ≤ H0.next) : ∀ i e H', i ≤ a.secs.length →
    (Ext H0 H' ∧ a.secs.take i = b.secs.take i ∧ e.length = 135 ∧ gd e 2 = .ptr p 0 ∧ gd e 3 = .ptr q 0 ∧ gd e 5 = .int .i64 i) →
    Rn (om Try.prog ⟨12, none⟩ lo c12_l0 ⟨e, [], H'⟩) fun x e' H' => Ext H0 H' ∧ (x = .exit 0 ∧ a.secs = b.secs ∧ e'.length = 135 ∧ gd e' 2 = .ptr p 0 ∧ gd e' 3 = .ptr q 0 ∨ x = .ret ∧ gd e' 4 = .bool false ∧ ¬ a.secs = b.secs) := by
  refine loop_rn a.secs.length _ _ ?_
  rintro i e H' hi ⟨hx, ht, he, a2, a3, a5⟩
  have ga := (hb.ext hx).a.get
  have gb := (hb.ext hx).b.get
  have n1 := hb.a.s.lenl
  by_cases h : i < a.secs.length
  · have h' : i < b.secs.length := by omega
    have hdd : decide ((i : Int) < a.secs.length) = true := decide_eq_true (by omega)
    have w1 : IntKind.i64.wrap ((i : Int) + 1) = ((i + 1 : Nat) : Int) := by rw [wi64 (by omega) (by omega)]; push_cast; rfl
    obtain ⟨x, u, x2, i1, i2, i3, i4, i5⟩ := (hb.ext hx).a.s.ix (List.getElem?_eq_getElem h)
    obtain ⟨y, w, y2, j1, j2, j3, j4, j5⟩ := (hb.ext hx).b.s.ix (List.getElem?_eq_getElem h')
    have lu : leafA u = true := (Sv.leaf i3).2
    have lw : leafA w = true := (Sv.leaf j3).2
    have f1 : leafs (secV a.secs[i] u).cells = true := lfb _ _ lu
    have f2 : leafs (secV b.secs[i] w).cells = true := lfb _ _ lw
    have c1 : (secV a.secs[i] u).cells.length = 3 := rfl
    have c2 : (secV b.secs[i] w).cells.length = 3 := rfl
    have hlo' : lo ≤ H'.next := Nat.le_trans hlo hx.1
    have cu : (secV a.secs[i] u).cells = [.str a.secs[i].name, .int .i64 a.secs[i].align, u] := rfl
    have cw : (secV b.secs[i] w).cells = [.str b.secs[i].name, .int .i64 b.secs[i].align, w] := rfl
    have cu0 : (secV a.secs[i] u).cells[0]? = some (.str a.secs[i].name) := rfl
    have cu1 : (secV a.secs[i] u).cells[1]? = some (.int .i64 a.secs[i].align) := rfl
    have cu2 : (secV a.secs[i] u).cells[2]? = some u := rfl
    have cw0 : (secV b.secs[i] w).cells[0]? = some (.str b.secs[i].name) := rfl
    have cw1 : (secV b.secs[i] w).cells[1]? = some (.int .i64 b.secs[i].align) := rfl
    have cw2 : (secV b.secs[i] w).cells[2]? = some w := rfl
    have nu := i3.lenl
    have s1 := st_full (lo := lo) (n := 3) (t := 39) (z := [.str ByteArray.empty, .int .i64 0, .rsl none 0 0 []]) (v := secV a.secs[i] u) c1 rfl f1
    have s2 := st_full (lo := lo) (n := 3) (t := 39) (z := [.str ByteArray.empty, .int .i64 0, .rsl none 0 0 []]) (v := secV b.secs[i] w) c2 rfl f2
    have nw := j3.lenl
    simp (maxDischargeDepth := 8) -implicitDefEqProofs only [sr1, kA, Q.ev, evQ, evP, evalO, resultsA, tupA, AV.rfL, callV, exists_eq', List.length_set, ne_eq, Nat.reduceEqDiff, Nat.reduceLT, reduceCtorEq, Nat.reduceAdd, List.getElem?_cons_succ, List.getElem?_cons_zero, Option.map, if_true, if_false, beq_self_eq_true, List.length_cons, List.length_nil, List.cons_append, List.nil_append, List.append_nil, ite_self, Int.reduceBNe, Int.reduceBEq, Int.reduceLT, Int.reduceLE, heapFree, hid2, List.flatMap_nil, List.flatMap_cons, List.filter_nil, List.filter_cons, List.contains_cons, List.contains_nil, c12, o12_0, g12_0, o12_1, g12_1, o12_2, g12_2, o12_3, g12_3, o12_4, g12_4, o12_6a, o12_6b, u12_6, g12_6, o12_7, g12_7, o12_8, g12_8, o12_9, g12_9, o12_10, g12_10, o12_12a, o12_12b, g12_12, o12_13, g12_13, o12_11, g12_11, o12_5, g12_5, o12_14, g12_14, o12_15, g12_15, o12_17a, o12_17b, g12_17, o12_18, g12_18, o12_16, g12_16, o12_19, g12_19, o12_20, g12_20, o12_22a, o12_22b, g12_22, o12_23, g12_23, o12_21, g12_21, o12_24, g12_24, he, Heap.get_push, Heap.get_set, nx_l, c12_b0, w12_6, a2, a3, a5, ga, gb, n1, hdd, i1, i2, j1, j2, f1, f2, c1, c2, hlo', s1, s2]
    have hx' : Ext H0 ((((H'.push (.cells 39 [.str ByteArray.empty, .int .i64 0, .rsl none 0 0 []])).push (.cells 39 [.str ByteArray.empty, .int .i64 0, .rsl none 0 0 []])).set H'.next (.cells 39 (secV a.secs[i] u).cells)).set (H'.next + 1) (.cells 39 (secV b.secs[i] w).cells)) :=
      (((hx.push _).push _).set hx.1 _ (by simp; omega)).set (Nat.le_succ_of_le hx.1) _
    have gu : ((((H'.push (.cells 39 [.str ByteArray.empty, .int .i64 0, .rsl none 0 0 []])).push (.cells 39 [.str ByteArray.empty, .int .i64 0, .rsl none 0 0 []])).set H'.next (.cells 39 (secV a.secs[i] u).cells)).set (H'.next + 1) (.cells 39 (secV b.secs[i] w).cells)).get H'.next = some (.cells 39 (secV a.secs[i] u).cells) := by
      rw [Heap.get_set, if_neg (by omega), Heap.get_set, if_pos rfl]
    have gw : ((((H'.push (.cells 39 [.str ByteArray.empty, .int .i64 0, .rsl none 0 0 []])).push (.cells 39 [.str ByteArray.empty, .int .i64 0, .rsl none 0 0 []])).set H'.next (.cells 39 (secV a.secs[i] u).cells)).set (H'.next + 1) (.cells 39 (secV b.secs[i] w).cells)).get (H'.next + 1) = some (.cells 39 (secV b.secs[i] w).cells) := by
      rw [Heap.get_set, if_pos rfl]
    have xb : Ext H' ((((H'.push (.cells 39 [.str ByteArray.empty, .int .i64 0, .rsl none 0 0 []])).push (.cells 39 [.str ByteArray.empty, .int .i64 0, .rsl none 0 0 []])).set H'.next (.cells 39 (secV a.secs[i] u).cells)).set (H'.next + 1) (.cells 39 (secV b.secs[i] w).cells)) :=
      ((((Ext.refl H').push _).push _).set (Nat.le_refl _) _ (by simp; omega)).set (Nat.le_succ _) _
    generalize ((((H'.push (.cells 39 [.str ByteArray.empty, .int .i64 0, .rsl none 0 0 []])).push (.cells 39 [.str ByteArray.empty, .int .i64 0, .rsl none 0 0 []])).set H'.next (.cells 39 (secV a.secs[i] u).cells)).set (H'.next + 1) (.cells 39 (secV b.secs[i] w).cells)) = H2 at hx' gu gw xb ⊢
    have k : decide (a.secs[i] = b.secs[i]) = (decide (a.secs[i].name = b.secs[i].name) && (decide (a.secs[i].align = b.secs[i].align) && decide (a.secs[i].bytes = b.secs[i].bytes))) := by
      generalize a.secs[i] = s; generalize b.secs[i] = s'
      cases s; cases s'
      simp only [Sec.mk.injEq, ← Bool.decide_and]
    have no : decide (a.secs[i] = b.secs[i]) = false → ¬ a.secs = b.secs := fun h1 => ne_at h h' (of_decide_eq_false h1)
    have yes : decide (a.secs[i] = b.secs[i]) = true → a.secs.take (i + 1) = b.secs.take (i + 1) := fun h1 => (take_eq h h' ht).2 (of_decide_eq_true h1)
    rw [k] at no yes
    generalize g1 : decide (a.secs[i].name = b.secs[i].name) = m1 at no yes
    generalize g2 : decide (a.secs[i].align = b.secs[i].align) = m2 at no yes
    simp (maxDischargeDepth := 8) -implicitDefEqProofs only [sr1, kA, Q.ev, evQ, evP, evalO, resultsA, tupA, AV.rfL, callV, exists_eq', List.length_set, ne_eq, Nat.reduceEqDiff, Nat.reduceLT, reduceCtorEq, Nat.reduceAdd, List.getElem?_cons_succ, List.getElem?_cons_zero, Option.map, if_true, if_false, beq_self_eq_true, List.length_cons, List.length_nil, List.cons_append, List.nil_append, List.append_nil, ite_self, Int.reduceBNe, Int.reduceBEq, Int.reduceLT, Int.reduceLE, heapFree, hid2, List.flatMap_nil, List.flatMap_cons, List.filter_nil, List.filter_cons, List.contains_cons, List.contains_nil, c12, o12_0, g12_0, o12_1, g12_1, o12_2, g12_2, o12_3, g12_3, o12_4, g12_4, o12_6a, o12_6b, u12_6, g12_6, o12_7, g12_7, o12_8, g12_8, o12_9, g12_9, o12_10, g12_10, o12_12a, o12_12b, g12_12, o12_13, g12_13, o12_11, g12_11, o12_5, g12_5, o12_14, g12_14, o12_15, g12_15, o12_17a, o12_17b, g12_17, o12_18, g12_18, o12_16, g12_16, o12_19, g12_19, o12_20, g12_20, o12_22a, o12_22b, g12_22, o12_23, g12_23, o12_21, g12_21, o12_24, g12_24, he, Heap.get_push, Heap.get_set, nx_l, a2, a3, a5, gu, gw, cu0, cu1, cu2, cw0, cw1, cw2, g1, g2, nu, nw]
    cases m1 <;> simp (maxDischargeDepth := 8) -implicitDefEqProofs only [sr1, kA, Q.ev, evQ, evP, evalO, resultsA, tupA, AV.rfL, callV, exists_eq', List.length_set, ne_eq, Nat.reduceEqDiff, Nat.reduceLT, reduceCtorEq, Nat.reduceAdd, List.getElem?_cons_succ, List.getElem?_cons_zero, Option.map, if_true, if_false, beq_self_eq_true, List.length_cons, List.length_nil, List.cons_append, List.nil_append, List.append_nil, ite_self, Int.reduceBNe, Int.reduceBEq, Int.reduceLT, Int.reduceLE, heapFree, hid2, List.flatMap_nil, List.flatMap_cons, List.filter_nil, List.filter_cons, List.contains_cons, List.contains_nil, c12, o12_0, g12_0, o12_1, g12_1, o12_2, g12_2, o12_3, g12_3, o12_4, g12_4, o12_6a, o12_6b, u12_6, g12_6, o12_7, g12_7, o12_8, g12_8, o12_9, g12_9, o12_10, g12_10, o12_12a, o12_12b, g12_12, o12_13, g12_13, o12_11, g12_11, o12_5, g12_5, o12_14, g12_14, o12_15, g12_15, o12_17a, o12_17b, g12_17, o12_18, g12_18, o12_16, g12_16, o12_19, g12_19, o12_20, g12_20, o12_22a, o12_22b, g12_22, o12_23, g12_23, o12_21, g12_21, o12_24, g12_24, he, Heap.get_push, Heap.get_set, nx_l, a2, a3, a5, gu, gw, cu0, cu1, cu2, cw0, cw1, cw2, g1, g2, nu, nw, hx']
    · exact no rfl
    cases m2 <;> simp (maxDischargeDepth := 8) -implicitDefEqProofs only [sr1, kA, Q.ev, evQ, evP, evalO, resultsA, tupA, AV.rfL, callV, exists_eq', List.length_set, ne_eq, Nat.reduceEqDiff, Nat.reduceLT, reduceCtorEq, Nat.reduceAdd, List.getElem?_cons_succ, List.getElem?_cons_zero, Option.map, if_true, if_false, beq_self_eq_true, List.length_cons, List.length_nil, List.cons_append, List.nil_append, List.append_nil, ite_self, Int.reduceBNe, Int.reduceBEq, Int.reduceLT, Int.reduceLE, heapFree, hid2, List.flatMap_nil, List.flatMap_cons, List.filter_nil, List.filter_cons, List.contains_cons, List.contains_nil, c12, o12_0, g12_0, o12_1, g12_1, o12_2, g12_2, o12_3, g12_3, o12_4, g12_4, o12_6a, o12_6b, u12_6, g12_6, o12_7, g12_7, o12_8, g12_8, o12_9, g12_9, o12_10, g12_10, o12_12a, o12_12b, g12_12, o12_13, g12_13, o12_11, g12_11, o12_5, g12_5, o12_14, g12_14, o12_15, g12_15, o12_17a, o12_17b, g12_17, o12_18, g12_18, o12_16, g12_16, o12_19, g12_19, o12_20, g12_20, o12_22a, o12_22b, g12_22, o12_23, g12_23, o12_21, g12_21, o12_24, g12_24, he, Heap.get_push, Heap.get_set, nx_l, a2, a3, a5, gu, gw, cu0, cu1, cu2, cw0, cw1, cw2, g1, g2, nu, nw, hx']
    · exact no rfl
    by_cases hlen : a.secs[i].bytes.length = b.secs[i].bytes.length
    · have g3 : decide ((a.secs[i].bytes.length : Int) = b.secs[i].bytes.length) = true := decide_eq_true (by omega)
      simp (maxDischargeDepth := 8) -implicitDefEqProofs only [sr1, kA, Q.ev, evQ, evP, evalO, resultsA, tupA, AV.rfL, callV, exists_eq', List.length_set, ne_eq, Nat.reduceEqDiff, Nat.reduceLT, reduceCtorEq, Nat.reduceAdd, List.getElem?_cons_succ, List.getElem?_cons_zero, Option.map, if_true, if_false, beq_self_eq_true, List.length_cons, List.length_nil, List.cons_append, List.nil_append, List.append_nil, ite_self, Int.reduceBNe, Int.reduceBEq, Int.reduceLT, Int.reduceLE, heapFree, hid2, List.flatMap_nil, List.flatMap_cons, List.filter_nil, List.filter_cons, List.contains_cons, List.contains_nil, c12, o12_0, g12_0, o12_1, g12_1, o12_2, g12_2, o12_3, g12_3, o12_4, g12_4, o12_6a, o12_6b, u12_6, g12_6, o12_7, g12_7, o12_8, g12_8, o12_9, g12_9, o12_10, g12_10, o12_12a, o12_12b, g12_12, o12_13, g12_13, o12_11, g12_11, o12_5, g12_5, o12_14, g12_14, o12_15, g12_15, o12_17a, o12_17b, g12_17, o12_18, g12_18, o12_16, g12_16, o12_19, g12_19, o12_20, g12_20, o12_22a, o12_22b, g12_22, o12_23, g12_23, o12_21, g12_21, o12_24, g12_24, he, Heap.get_push, Heap.get_set, nx_l, a2, a3, a5, g3]
      generalize hr : om Try.prog _ _ c12_l1 _ = r
      obtain ⟨x', e2, H3, rfl, rfl, ⟨rfl, hp, he2, p2, p3, p5⟩ | ⟨rfl, p4, hp⟩⟩ := rn_of hr (same2_l1 lo H2 p q H'.next (H'.next + 1) a.secs[i].bytes b.secs[i].bytes u w _ _ _ _ 39 39 (hby _ (List.getElem_mem h)) hlen gu gw (Sv.ext i3 xb) (Sv.ext j3 xb) i 0 _ _ (Nat.zero_le _)
        ⟨rfl, rfl, by simp only [gd_eq, gd_ne, ne_eq, not_false_eq_true, Nat.reduceEqDiff, Nat.reduceLT, List.length_set, reduceCtorEq, he], by simp only [gd_eq, gd_ne, ne_eq, not_false_eq_true, Nat.reduceEqDiff, Nat.reduceLT, List.length_set, reduceCtorEq, he, a2], by simp only [gd_eq, gd_ne, ne_eq, not_false_eq_true, Nat.reduceEqDiff, Nat.reduceLT, List.length_set, reduceCtorEq, he, a3], by simp only [gd_eq, gd_ne, ne_eq, not_false_eq_true, Nat.reduceEqDiff, Nat.reduceLT, List.length_set, reduceCtorEq, he, a5], by simp only [gd_eq, gd_ne, ne_eq, not_false_eq_true, Nat.reduceEqDiff, Nat.reduceLT, List.length_set, reduceCtorEq, he], by simp only [gd_eq, gd_ne, ne_eq, not_false_eq_true, Nat.reduceEqDiff, Nat.reduceLT, List.length_set, reduceCtorEq, he], by simp only [gd_eq, gd_ne, ne_eq, not_false_eq_true, Nat.reduceEqDiff, Nat.reduceLT, List.length_set, reduceCtorEq, he]; rfl⟩)
      · rw [decide_eq_true hp] at yes
        simp (maxDischargeDepth := 8) -implicitDefEqProofs only [sr1, kA, Q.ev, evQ, evP, evalO, resultsA, tupA, AV.rfL, callV, exists_eq', List.length_set, ne_eq, Nat.reduceEqDiff, Nat.reduceLT, reduceCtorEq, Nat.reduceAdd, List.getElem?_cons_succ, List.getElem?_cons_zero, Option.map, if_true, if_false, beq_self_eq_true, List.length_cons, List.length_nil, List.cons_append, List.nil_append, List.append_nil, ite_self, Int.reduceBNe, Int.reduceBEq, Int.reduceLT, Int.reduceLE, heapFree, hid2, List.flatMap_nil, List.flatMap_cons, List.filter_nil, List.filter_cons, List.contains_cons, List.contains_nil, c12, o12_0, g12_0, o12_1, g12_1, o12_2, g12_2, o12_3, g12_3, o12_4, g12_4, o12_6a, o12_6b, u12_6, g12_6, o12_7, g12_7, o12_8, g12_8, o12_9, g12_9, o12_10, g12_10, o12_12a, o12_12b, g12_12, o12_13, g12_13, o12_11, g12_11, o12_5, g12_5, o12_14, g12_14, o12_15, g12_15, o12_17a, o12_17b, g12_17, o12_18, g12_18, o12_16, g12_16, o12_19, g12_19, o12_20, g12_20, o12_22a, o12_22b, g12_22, o12_23, g12_23, o12_21, g12_21, o12_24, g12_24, he, Heap.get_push, Heap.get_set, nx_l, he2, p2, p3, p5, w1, hx', h]
        exact yes rfl
      · rw [decide_eq_false hp] at no
        simp (maxDischargeDepth := 8) -implicitDefEqProofs only [sr1, kA, Q.ev, evQ, evP, evalO, resultsA, tupA, AV.rfL, callV, exists_eq', List.length_set, ne_eq, Nat.reduceEqDiff, Nat.reduceLT, reduceCtorEq, Nat.reduceAdd, List.getElem?_cons_succ, List.getElem?_cons_zero, Option.map, if_true, if_false, beq_self_eq_true, List.length_cons, List.length_nil, List.cons_append, List.nil_append, List.append_nil, ite_self, Int.reduceBNe, Int.reduceBEq, Int.reduceLT, Int.reduceLE, heapFree, hid2, List.flatMap_nil, List.flatMap_cons, List.filter_nil, List.filter_cons, List.contains_cons, List.contains_nil, c12, o12_0, g12_0, o12_1, g12_1, o12_2, g12_2, o12_3, g12_3, o12_4, g12_4, o12_6a, o12_6b, u12_6, g12_6, o12_7, g12_7, o12_8, g12_8, o12_9, g12_9, o12_10, g12_10, o12_12a, o12_12b, g12_12, o12_13, g12_13, o12_11, g12_11, o12_5, g12_5, o12_14, g12_14, o12_15, g12_15, o12_17a, o12_17b, g12_17, o12_18, g12_18, o12_16, g12_16, o12_19, g12_19, o12_20, g12_20, o12_22a, o12_22b, g12_22, o12_23, g12_23, o12_21, g12_21, o12_24, g12_24, he, Heap.get_push, Heap.get_set, nx_l, p4, hx']
        exact no rfl
    · have g3 : decide ((a.secs[i].bytes.length : Int) = b.secs[i].bytes.length) = false := decide_eq_false (by omega)
      rw [decide_eq_false (show ¬ a.secs[i].bytes = b.secs[i].bytes from fun e => hlen (by rw [e]))] at no
      simp (maxDischargeDepth := 8) -implicitDefEqProofs only [sr1, kA, Q.ev, evQ, evP, evalO, resultsA, tupA, AV.rfL, callV, exists_eq', List.length_set, ne_eq, Nat.reduceEqDiff, Nat.reduceLT, reduceCtorEq, Nat.reduceAdd, List.getElem?_cons_succ, List.getElem?_cons_zero, Option.map, if_true, if_false, beq_self_eq_true, List.length_cons, List.length_nil, List.cons_append, List.nil_append, List.append_nil, ite_self, Int.reduceBNe, Int.reduceBEq, Int.reduceLT, Int.reduceLE, heapFree, hid2, List.flatMap_nil, List.flatMap_cons, List.filter_nil, List.filter_cons, List.contains_cons, List.contains_nil, c12, o12_0, g12_0, o12_1, g12_1, o12_2, g12_2, o12_3, g12_3, o12_4, g12_4, o12_6a, o12_6b, u12_6, g12_6, o12_7, g12_7, o12_8, g12_8, o12_9, g12_9, o12_10, g12_10, o12_12a, o12_12b, g12_12, o12_13, g12_13, o12_11, g12_11, o12_5, g12_5, o12_14, g12_14, o12_15, g12_15, o12_17a, o12_17b, g12_17, o12_18, g12_18, o12_16, g12_16, o12_19, g12_19, o12_20, g12_20, o12_22a, o12_22b, g12_22, o12_23, g12_23, o12_21, g12_21, o12_24, g12_24, he, Heap.get_push, Heap.get_set, nx_l, a2, a3, a5, g3, hx']
      exact no rfl
  · obtain rfl : i = a.secs.length := by omega
    have hdd : decide ((a.secs.length : Int) < a.secs.length) = false := decide_eq_false (by omega)
    rw [List.take_length, List.take_of_length_le (by omega)] at ht
    simp (maxDischargeDepth := 8) -implicitDefEqProofs only [sr1, kA, Q.ev, evQ, evP, evalO, resultsA, tupA, AV.rfL, callV, exists_eq', List.length_set, ne_eq, Nat.reduceEqDiff, Nat.reduceLT, reduceCtorEq, Nat.reduceAdd, List.getElem?_cons_succ, List.getElem?_cons_zero, Option.map, if_true, if_false, beq_self_eq_true, List.length_cons, List.length_nil, List.cons_append, List.nil_append, List.append_nil, ite_self, Int.reduceBNe, Int.reduceBEq, Int.reduceLT, Int.reduceLE, heapFree, hid2, List.flatMap_nil, List.flatMap_cons, List.filter_nil, List.filter_cons, List.contains_cons, List.contains_nil, c12, o12_0, g12_0, o12_1, g12_1, o12_2, g12_2, o12_3, g12_3, o12_4, g12_4, o12_6a, o12_6b, u12_6, g12_6, o12_7, g12_7, o12_8, g12_8, o12_9, g12_9, o12_10, g12_10, o12_12a, o12_12b, g12_12, o12_13, g12_13, o12_11, g12_11, o12_5, g12_5, o12_14, g12_14, o12_15, g12_15, o12_17a, o12_17b, g12_17, o12_18, g12_18, o12_16, g12_16, o12_19, g12_19, o12_20, g12_20, o12_22a, o12_22b, g12_22, o12_23, g12_23, o12_21, g12_21, o12_24, g12_24, he, Heap.get_push, Heap.get_set, nx_l, c12_b0, a2, a3, a5, ga, gb, n1, hdd]
    exact ⟨hx, ht⟩
end Go.Proofs.Ytejmfbeiejlgkaa.obj
/-! The functions below the Object laws, P12: the reference's comparison, whole. Conditions: in each statement. -/
namespace Go.Proofs.Ytejmfbeiejlgkaa.obj
open Go Go.Ab
set_option maxRecDepth 100000
set_option linter.unusedSimpArgs false
set_option linter.unusedVariables false

set_option maxHeartbeats 8000000 in
theorem same2_l2 (a b : Obj) (p q lo : Nat) (vs vy vr ws wy wr : AV) (hl : a.syms.length < 2 ^ 62) (hm : a.syms.length = b.syms.length) (H : Heap) (hb : Two H p q a b vs vy vr ws wy wr) : ∀ i e H', i ≤ a.syms.length →
    (H' = H ∧ a.syms.take i = b.syms.take i ∧ e.length = 135 ∧ gd e 2 = .ptr p 0 ∧ gd e 3 = .ptr q 0 ∧ gd e 9 = .int .i64 i) →
    Rn (om Try.prog ⟨12, none⟩ lo c12_l2 ⟨e, [], H'⟩) fun x e' H' => H' = H ∧ (x = .exit 4 ∧ a.syms = b.syms ∧ e'.length = 135 ∧ gd e' 2 = .ptr p 0 ∧ gd e' 3 = .ptr q 0 ∨ x = .ret ∧ gd e' 4 = .bool false ∧ ¬ a.syms = b.syms) := by
  refine loop_rn a.syms.length _ _ ?_
  rintro i e H' hi ⟨rfl, ht, he, a2, a3, a5⟩
  have ga := hb.a.get
  have gb := hb.b.get
  have n1 := SvY.lenl hb.a.y
  by_cases h : i < a.syms.length
  · have h' : i < b.syms.length := by omega
    have hdd : decide ((i : Int) < a.syms.length) = true := decide_eq_true (by omega)
    have w1 : IntKind.i64.wrap ((i : Int) + 1) = ((i + 1 : Nat) : Int) := by rw [wi64 (by omega) (by omega)]; push_cast; rfl
    obtain ⟨x, i1, i2⟩ := SvY.ix hb.a.y (List.getElem?_eq_getElem h)
    obtain ⟨y, j1, j2⟩ := SvY.ix hb.b.y (List.getElem?_eq_getElem h')
    have hne := ne41 a.syms[i] b.syms[i]
    by_cases g : a.syms[i] = b.syms[i]
    · rw [decide_eq_true g] at hne
      have hz := (take_eq h h' ht).2 g
      simp (maxDischargeDepth := 8) -implicitDefEqProofs only [sr1, kA, Q.ev, evQ, evP, evalO, resultsA, tupA, AV.rfL, callV, exists_eq', List.length_set, ne_eq, Nat.reduceEqDiff, Nat.reduceLT, reduceCtorEq, Nat.reduceAdd, List.getElem?_cons_succ, List.getElem?_cons_zero, Option.map, if_true, if_false, beq_self_eq_true, List.length_cons, List.length_nil, List.cons_append, List.nil_append, List.append_nil, ite_self, Int.reduceBNe, Int.reduceBEq, Int.reduceLT, Int.reduceLE, heapFree, hid2, List.flatMap_nil, List.flatMap_cons, List.filter_nil, List.filter_cons, List.contains_cons, List.contains_nil, c12, o12_0, g12_0, o12_1, g12_1, o12_2, g12_2, o12_3, g12_3, o12_4, g12_4, o12_6a, o12_6b, u12_6, g12_6, o12_7, g12_7, o12_8, g12_8, o12_9, g12_9, o12_10, g12_10, o12_12a, o12_12b, g12_12, o12_13, g12_13, o12_11, g12_11, o12_5, g12_5, o12_14, g12_14, o12_15, g12_15, o12_17a, o12_17b, g12_17, o12_18, g12_18, o12_16, g12_16, o12_19, g12_19, o12_20, g12_20, o12_22a, o12_22b, g12_22, o12_23, g12_23, o12_21, g12_21, o12_24, g12_24, he, Heap.get_push, Heap.get_set, c12_b2, a2, a3, a5, ga, gb, n1, hdd, i1, i2, j1, j2, hne, w1, h, hz]
    · rw [decide_eq_false g] at hne
      simp (maxDischargeDepth := 8) -implicitDefEqProofs only [sr1, kA, Q.ev, evQ, evP, evalO, resultsA, tupA, AV.rfL, callV, exists_eq', List.length_set, ne_eq, Nat.reduceEqDiff, Nat.reduceLT, reduceCtorEq, Nat.reduceAdd, List.getElem?_cons_succ, List.getElem?_cons_zero, Option.map, if_true, if_false, beq_self_eq_true, List.length_cons, List.length_nil, List.cons_append, List.nil_append, List.append_nil, ite_self, Int.reduceBNe, Int.reduceBEq, Int.reduceLT, Int.reduceLE, heapFree, hid2, List.flatMap_nil, List.flatMap_cons, List.filter_nil, List.filter_cons, List.contains_cons, List.contains_nil, c12, o12_0, g12_0, o12_1, g12_1, o12_2, g12_2, o12_3, g12_3, o12_4, g12_4, o12_6a, o12_6b, u12_6, g12_6, o12_7, g12_7, o12_8, g12_8, o12_9, g12_9, o12_10, g12_10, o12_12a, o12_12b, g12_12, o12_13, g12_13, o12_11, g12_11, o12_5, g12_5, o12_14, g12_14, o12_15, g12_15, o12_17a, o12_17b, g12_17, o12_18, g12_18, o12_16, g12_16, o12_19, g12_19, o12_20, g12_20, o12_22a, o12_22b, g12_22, o12_23, g12_23, o12_21, g12_21, o12_24, g12_24, he, Heap.get_push, Heap.get_set, c12_b2, a2, a3, a5, ga, gb, n1, hdd, i1, i2, j1, j2, hne]
      exact ne_at h h' g
  · obtain rfl : i = a.syms.length := by omega
    have hdd : decide ((a.syms.length : Int) < a.syms.length) = false := decide_eq_false (by omega)
    rw [List.take_length, List.take_of_length_le (by omega)] at ht
    simp (maxDischargeDepth := 8) -implicitDefEqProofs only [sr1, kA, Q.ev, evQ, evP, evalO, resultsA, tupA, AV.rfL, callV, exists_eq', List.length_set, ne_eq, Nat.reduceEqDiff, Nat.reduceLT, reduceCtorEq, Nat.reduceAdd, List.getElem?_cons_succ, List.getElem?_cons_zero, Option.map, if_true, if_false, beq_self_eq_true, List.length_cons, List.length_nil, List.cons_append, List.nil_append, List.append_nil, ite_self, Int.reduceBNe, Int.reduceBEq, Int.reduceLT, Int.reduceLE, heapFree, hid2, List.flatMap_nil, List.flatMap_cons, List.filter_nil, List.filter_cons, List.contains_cons, List.contains_nil, c12, o12_0, g12_0, o12_1, g12_1, o12_2, g12_2, o12_3, g12_3, o12_4, g12_4, o12_6a, o12_6b, u12_6, g12_6, o12_7, g12_7, o12_8, g12_8, o12_9, g12_9, o12_10, g12_10, o12_12a, o12_12b, g12_12, o12_13, g12_13, o12_11, g12_11, o12_5, g12_5, o12_14, g12_14, o12_15, g12_15, o12_17a, o12_17b, g12_17, o12_18, g12_18, o12_16, g12_16, o12_19, g12_19, o12_20, g12_20, o12_22a, o12_22b, g12_22, o12_23, g12_23, o12_21, g12_21, o12_24, g12_24, he, Heap.get_push, Heap.get_set, c12_b2, a2, a3, a5, ga, gb, n1, hdd]
    exact ht

set_option maxHeartbeats 8000000 in
theorem same2_l3 (a b : Obj) (p q lo : Nat) (vs vy vr ws wy wr : AV) (hl : a.rels.length < 2 ^ 62) (hm : a.rels.length = b.rels.length) (H : Heap) (hb : Two H p q a b vs vy vr ws wy wr) : ∀ i e H', i ≤ a.rels.length →
    (H' = H ∧ a.rels.take i = b.rels.take i ∧ e.length = 135 ∧ gd e 2 = .ptr p 0 ∧ gd e 3 = .ptr q 0 ∧ gd e 10 = .int .i64 i) →
    Rn (om Try.prog ⟨12, none⟩ lo c12_l3 ⟨e, [], H'⟩) fun x e' H' => H' = H ∧ (x = .exit 6 ∧ a.rels = b.rels ∧ e'.length = 135 ∧ gd e' 2 = .ptr p 0 ∧ gd e' 3 = .ptr q 0 ∨ x = .ret ∧ gd e' 4 = .bool false ∧ ¬ a.rels = b.rels) := by
  refine loop_rn a.rels.length _ _ ?_
  rintro i e H' hi ⟨rfl, ht, he, a2, a3, a5⟩
  have ga := hb.a.get
  have gb := hb.b.get
  have n1 := SvR.lenl hb.a.r
  by_cases h : i < a.rels.length
  · have h' : i < b.rels.length := by omega
    have hdd : decide ((i : Int) < a.rels.length) = true := decide_eq_true (by omega)
    have w1 : IntKind.i64.wrap ((i : Int) + 1) = ((i + 1 : Nat) : Int) := by rw [wi64 (by omega) (by omega)]; push_cast; rfl
    obtain ⟨x, i1, i2⟩ := SvR.ix hb.a.r (List.getElem?_eq_getElem h)
    obtain ⟨y, j1, j2⟩ := SvR.ix hb.b.r (List.getElem?_eq_getElem h')
    have hne := ne43 a.rels[i] b.rels[i]
    by_cases g : a.rels[i] = b.rels[i]
    · rw [decide_eq_true g] at hne
      have hz := (take_eq h h' ht).2 g
      simp (maxDischargeDepth := 8) -implicitDefEqProofs only [sr1, kA, Q.ev, evQ, evP, evalO, resultsA, tupA, AV.rfL, callV, exists_eq', List.length_set, ne_eq, Nat.reduceEqDiff, Nat.reduceLT, reduceCtorEq, Nat.reduceAdd, List.getElem?_cons_succ, List.getElem?_cons_zero, Option.map, if_true, if_false, beq_self_eq_true, List.length_cons, List.length_nil, List.cons_append, List.nil_append, List.append_nil, ite_self, Int.reduceBNe, Int.reduceBEq, Int.reduceLT, Int.reduceLE, heapFree, hid2, List.flatMap_nil, List.flatMap_cons, List.filter_nil, List.filter_cons, List.contains_cons, List.contains_nil, c12, o12_0, g12_0, o12_1, g12_1, o12_2, g12_2, o12_3, g12_3, o12_4, g12_4, o12_6a, o12_6b, u12_6, g12_6, o12_7, g12_7, o12_8, g12_8, o12_9, g12_9, o12_10, g12_10, o12_12a, o12_12b, g12_12, o12_13, g12_13, o12_11, g12_11, o12_5, g12_5, o12_14, g12_14, o12_15, g12_15, o12_17a, o12_17b, g12_17, o12_18, g12_18, o12_16, g12_16, o12_19, g12_19, o12_20, g12_20, o12_22a, o12_22b, g12_22, o12_23, g12_23, o12_21, g12_21, o12_24, g12_24, he, Heap.get_push, Heap.get_set, c12_b3, a2, a3, a5, ga, gb, n1, hdd, i1, i2, j1, j2, hne, w1, h, hz]
    · rw [decide_eq_false g] at hne
      simp (maxDischargeDepth := 8) -implicitDefEqProofs only [sr1, kA, Q.ev, evQ, evP, evalO, resultsA, tupA, AV.rfL, callV, exists_eq', List.length_set, ne_eq, Nat.reduceEqDiff, Nat.reduceLT, reduceCtorEq, Nat.reduceAdd, List.getElem?_cons_succ, List.getElem?_cons_zero, Option.map, if_true, if_false, beq_self_eq_true, List.length_cons, List.length_nil, List.cons_append, List.nil_append, List.append_nil, ite_self, Int.reduceBNe, Int.reduceBEq, Int.reduceLT, Int.reduceLE, heapFree, hid2, List.flatMap_nil, List.flatMap_cons, List.filter_nil, List.filter_cons, List.contains_cons, List.contains_nil, c12, o12_0, g12_0, o12_1, g12_1, o12_2, g12_2, o12_3, g12_3, o12_4, g12_4, o12_6a, o12_6b, u12_6, g12_6, o12_7, g12_7, o12_8, g12_8, o12_9, g12_9, o12_10, g12_10, o12_12a, o12_12b, g12_12, o12_13, g12_13, o12_11, g12_11, o12_5, g12_5, o12_14, g12_14, o12_15, g12_15, o12_17a, o12_17b, g12_17, o12_18, g12_18, o12_16, g12_16, o12_19, g12_19, o12_20, g12_20, o12_22a, o12_22b, g12_22, o12_23, g12_23, o12_21, g12_21, o12_24, g12_24, he, Heap.get_push, Heap.get_set, c12_b3, a2, a3, a5, ga, gb, n1, hdd, i1, i2, j1, j2, hne]
      exact ne_at h h' g
  · obtain rfl : i = a.rels.length := by omega
    have hdd : decide ((a.rels.length : Int) < a.rels.length) = false := decide_eq_false (by omega)
    rw [List.take_length, List.take_of_length_le (by omega)] at ht
    simp (maxDischargeDepth := 8) -implicitDefEqProofs only [sr1, kA, Q.ev, evQ, evP, evalO, resultsA, tupA, AV.rfL, callV, exists_eq', List.length_set, ne_eq, Nat.reduceEqDiff, Nat.reduceLT, reduceCtorEq, Nat.reduceAdd, List.getElem?_cons_succ, List.getElem?_cons_zero, Option.map, if_true, if_false, beq_self_eq_true, List.length_cons, List.length_nil, List.cons_append, List.nil_append, List.append_nil, ite_self, Int.reduceBNe, Int.reduceBEq, Int.reduceLT, Int.reduceLE, heapFree, hid2, List.flatMap_nil, List.flatMap_cons, List.filter_nil, List.filter_cons, List.contains_cons, List.contains_nil, c12, o12_0, g12_0, o12_1, g12_1, o12_2, g12_2, o12_3, g12_3, o12_4, g12_4, o12_6a, o12_6b, u12_6, g12_6, o12_7, g12_7, o12_8, g12_8, o12_9, g12_9, o12_10, g12_10, o12_12a, o12_12b, g12_12, o12_13, g12_13, o12_11, g12_11, o12_5, g12_5, o12_14, g12_14, o12_15, g12_15, o12_17a, o12_17b, g12_17, o12_18, g12_18, o12_16, g12_16, o12_19, g12_19, o12_20, g12_20, o12_22a, o12_22b, g12_22, o12_23, g12_23, o12_21, g12_21, o12_24, g12_24, he, Heap.get_push, Heap.get_set, c12_b3, a2, a3, a5, ga, gb, n1, hdd]
    exact ht

theorem lendec {α : Type} (l m : List α) (h : ¬ l.length = m.length) : ¬ l = m := fun e => h (by rw [e])
set_option maxHeartbeats 8000000 in
theorem same2_run (v w : AV) (a b : Obj) (H : Heap) (hA : RdO H v a) (hB : RdO H w b) (hs : Sm a) (hby : ∀ s ∈ a.secs, s.bytes.length < 2 ^ 62) (lo : Nat) (hlo : lo ≤ H.next) : callA Try.prog (om Try.prog) lo 12 [v, w] H = some (.bool (decide (a = b)), H) := by
  obtain ⟨vs, vy, vr, rfl, h1, h2, h3⟩ := hA
  obtain ⟨ws, wy, wr, rfl, k1, k2, k3⟩ := hB
  obtain ⟨e, he, a0, a1, hc⟩ := c12_in (.agg [.str a.machine, vs, vy, vr]) (.agg [.str b.machine, ws, wy, wr]) lo H
  rw [hc]
  have lf := obj_leafs h1 h2 h3
  have lf2 := obj_leafs k1 k2 k3
  have ex : Ext H ((H.push (.cells 26 [.str a.machine, vs, vy, vr])).push (.cells 26 [.str b.machine, ws, wy, wr])) := ((Ext.refl H).push _).push _
  have x1 : Ext H (H.push (.cells 26 [.str a.machine, vs, vy, vr])) := (Ext.refl H).push _
  have hb : Two ((H.push (.cells 26 [.str a.machine, vs, vy, vr])).push (.cells 26 [.str b.machine, ws, wy, wr])) H.next (H.next + 1) a b vs vy vr ws wy wr :=
    ⟨(Box.push h1 h2 h3).ext ((Ext.refl _).push _), Box.push (H := H.push (.cells 26 [.str a.machine, vs, vy, vr])) (k1.ext x1) (Sv.ext k2 x1) (Sv.ext k3 x1)⟩
  generalize AV.rfL [AV.agg [.str a.machine, vs, vy, vr], AV.agg [.str b.machine, ws, wy, wr]] = c
  generalize hlq : (if c = true then H.next else lo) = lo'
  have hlo' : lo' ≤ ((H.push (.cells 26 [.str a.machine, vs, vy, vr])).push (.cells 26 [.str b.machine, ws, wy, wr])).next := by rw [← hlq]; have : ((H.push (.cells 26 [.str a.machine, vs, vy, vr])).push (.cells 26 [.str b.machine, ws, wy, wr])).next = H.next + 2 := rfl; split <;> omega
  have n1 := h1.lenl
  have n2 := SvY.lenl h2
  have n3 := SvR.lenl h3
  have k1' := k1.lenl
  have k2' := SvY.lenl k2
  have k3' := SvR.lenl k3
  rw [obj_eq]
  generalize g0 : decide (a.machine = b.machine) = m0
  generalize g1 : decide ((a.secs.length : Int) = b.secs.length) = m1
  generalize g2 : decide ((a.syms.length : Int) = b.syms.length) = m2
  generalize g3 : decide ((a.rels.length : Int) = b.rels.length) = m3
  simp (maxDischargeDepth := 8) -implicitDefEqProofs only [sr1, kA, Q.ev, evQ, evP, evalO, resultsA, tupA, AV.rfL, callV, exists_eq', List.length_set, ne_eq, Nat.reduceEqDiff, Nat.reduceLT, reduceCtorEq, Nat.reduceAdd, List.getElem?_cons_succ, List.getElem?_cons_zero, Option.map, if_true, if_false, beq_self_eq_true, List.length_cons, List.length_nil, List.cons_append, List.nil_append, List.append_nil, ite_self, Int.reduceBNe, Int.reduceBEq, Int.reduceLT, Int.reduceLE, heapFree, hid2, List.flatMap_nil, List.flatMap_cons, List.filter_nil, List.filter_cons, List.contains_cons, List.contains_nil, c12, o12_0, g12_0, o12_1, g12_1, o12_2, g12_2, o12_3, g12_3, o12_4, g12_4, o12_6a, o12_6b, u12_6, g12_6, o12_7, g12_7, o12_8, g12_8, o12_9, g12_9, o12_10, g12_10, o12_12a, o12_12b, g12_12, o12_13, g12_13, o12_11, g12_11, o12_5, g12_5, o12_14, g12_14, o12_15, g12_15, o12_17a, o12_17b, g12_17, o12_18, g12_18, o12_16, g12_16, o12_19, g12_19, o12_20, g12_20, o12_22a, o12_22b, g12_22, o12_23, g12_23, o12_21, g12_21, o12_24, g12_24, he, Heap.get_push, Heap.get_set, a0, a1, lf, lf2, n1, n2, n3, k1', k2', k3', g0, g1, g2, g3]
  cases m0 <;> simp (maxDischargeDepth := 8) -implicitDefEqProofs only [sr1, kA, Q.ev, evQ, evP, evalO, resultsA, tupA, AV.rfL, callV, exists_eq', List.length_set, ne_eq, Nat.reduceEqDiff, Nat.reduceLT, reduceCtorEq, Nat.reduceAdd, List.getElem?_cons_succ, List.getElem?_cons_zero, Option.map, if_true, if_false, beq_self_eq_true, List.length_cons, List.length_nil, List.cons_append, List.nil_append, List.append_nil, ite_self, Int.reduceBNe, Int.reduceBEq, Int.reduceLT, Int.reduceLE, heapFree, hid2, List.flatMap_nil, List.flatMap_cons, List.filter_nil, List.filter_cons, List.contains_cons, List.contains_nil, c12, o12_0, g12_0, o12_1, g12_1, o12_2, g12_2, o12_3, g12_3, o12_4, g12_4, o12_6a, o12_6b, u12_6, g12_6, o12_7, g12_7, o12_8, g12_8, o12_9, g12_9, o12_10, g12_10, o12_12a, o12_12b, g12_12, o12_13, g12_13, o12_11, g12_11, o12_5, g12_5, o12_14, g12_14, o12_15, g12_15, o12_17a, o12_17b, g12_17, o12_18, g12_18, o12_16, g12_16, o12_19, g12_19, o12_20, g12_20, o12_22a, o12_22b, g12_22, o12_23, g12_23, o12_21, g12_21, o12_24, g12_24, he, Heap.get_push, Heap.get_set, a0, a1, lf, lf2, n1, n2, n3, k1', k2', k3', g0, g1, g2, g3]
  cases m1
  · rw [decide_eq_false (lendec a.secs b.secs (by have := of_decide_eq_false g1; omega))]
    simp (maxDischargeDepth := 8) -implicitDefEqProofs only [sr1, kA, Q.ev, evQ, evP, evalO, resultsA, tupA, AV.rfL, callV, exists_eq', List.length_set, ne_eq, Nat.reduceEqDiff, Nat.reduceLT, reduceCtorEq, Nat.reduceAdd, List.getElem?_cons_succ, List.getElem?_cons_zero, Option.map, if_true, if_false, beq_self_eq_true, List.length_cons, List.length_nil, List.cons_append, List.nil_append, List.append_nil, ite_self, Int.reduceBNe, Int.reduceBEq, Int.reduceLT, Int.reduceLE, heapFree, hid2, List.flatMap_nil, List.flatMap_cons, List.filter_nil, List.filter_cons, List.contains_cons, List.contains_nil, c12, o12_0, g12_0, o12_1, g12_1, o12_2, g12_2, o12_3, g12_3, o12_4, g12_4, o12_6a, o12_6b, u12_6, g12_6, o12_7, g12_7, o12_8, g12_8, o12_9, g12_9, o12_10, g12_10, o12_12a, o12_12b, g12_12, o12_13, g12_13, o12_11, g12_11, o12_5, g12_5, o12_14, g12_14, o12_15, g12_15, o12_17a, o12_17b, g12_17, o12_18, g12_18, o12_16, g12_16, o12_19, g12_19, o12_20, g12_20, o12_22a, o12_22b, g12_22, o12_23, g12_23, o12_21, g12_21, o12_24, g12_24, he, Heap.get_push, Heap.get_set, a0, a1, lf, lf2, n1, n2, n3, k1', k2', k3', g0, g1, g2, g3]
  simp (maxDischargeDepth := 8) -implicitDefEqProofs only [sr1, kA, Q.ev, evQ, evP, evalO, resultsA, tupA, AV.rfL, callV, exists_eq', List.length_set, ne_eq, Nat.reduceEqDiff, Nat.reduceLT, reduceCtorEq, Nat.reduceAdd, List.getElem?_cons_succ, List.getElem?_cons_zero, Option.map, if_true, if_false, beq_self_eq_true, List.length_cons, List.length_nil, List.cons_append, List.nil_append, List.append_nil, ite_self, Int.reduceBNe, Int.reduceBEq, Int.reduceLT, Int.reduceLE, heapFree, hid2, List.flatMap_nil, List.flatMap_cons, List.filter_nil, List.filter_cons, List.contains_cons, List.contains_nil, c12, o12_0, g12_0, o12_1, g12_1, o12_2, g12_2, o12_3, g12_3, o12_4, g12_4, o12_6a, o12_6b, u12_6, g12_6, o12_7, g12_7, o12_8, g12_8, o12_9, g12_9, o12_10, g12_10, o12_12a, o12_12b, g12_12, o12_13, g12_13, o12_11, g12_11, o12_5, g12_5, o12_14, g12_14, o12_15, g12_15, o12_17a, o12_17b, g12_17, o12_18, g12_18, o12_16, g12_16, o12_19, g12_19, o12_20, g12_20, o12_22a, o12_22b, g12_22, o12_23, g12_23, o12_21, g12_21, o12_24, g12_24, he, Heap.get_push, Heap.get_set, a0, a1, lf, lf2, n1, n2, n3, k1', k2', k3', g0, g1, g2, g3]
  cases m2
  · rw [decide_eq_false (lendec a.syms b.syms (by have := of_decide_eq_false g2; omega))]
    simp (maxDischargeDepth := 8) -implicitDefEqProofs only [sr1, kA, Q.ev, evQ, evP, evalO, resultsA, tupA, AV.rfL, callV, exists_eq', List.length_set, ne_eq, Nat.reduceEqDiff, Nat.reduceLT, reduceCtorEq, Nat.reduceAdd, List.getElem?_cons_succ, List.getElem?_cons_zero, Option.map, if_true, if_false, beq_self_eq_true, List.length_cons, List.length_nil, List.cons_append, List.nil_append, List.append_nil, ite_self, Int.reduceBNe, Int.reduceBEq, Int.reduceLT, Int.reduceLE, heapFree, hid2, List.flatMap_nil, List.flatMap_cons, List.filter_nil, List.filter_cons, List.contains_cons, List.contains_nil, c12, o12_0, g12_0, o12_1, g12_1, o12_2, g12_2, o12_3, g12_3, o12_4, g12_4, o12_6a, o12_6b, u12_6, g12_6, o12_7, g12_7, o12_8, g12_8, o12_9, g12_9, o12_10, g12_10, o12_12a, o12_12b, g12_12, o12_13, g12_13, o12_11, g12_11, o12_5, g12_5, o12_14, g12_14, o12_15, g12_15, o12_17a, o12_17b, g12_17, o12_18, g12_18, o12_16, g12_16, o12_19, g12_19, o12_20, g12_20, o12_22a, o12_22b, g12_22, o12_23, g12_23, o12_21, g12_21, o12_24, g12_24, he, Heap.get_push, Heap.get_set, a0, a1, lf, lf2, n1, n2, n3, k1', k2', k3', g0, g1, g2, g3]
  simp (maxDischargeDepth := 8) -implicitDefEqProofs only [sr1, kA, Q.ev, evQ, evP, evalO, resultsA, tupA, AV.rfL, callV, exists_eq', List.length_set, ne_eq, Nat.reduceEqDiff, Nat.reduceLT, reduceCtorEq, Nat.reduceAdd, List.getElem?_cons_succ, List.getElem?_cons_zero, Option.map, if_true, if_false, beq_self_eq_true, List.length_cons, List.length_nil, List.cons_append, List.nil_append, List.append_nil, ite_self, Int.reduceBNe, Int.reduceBEq, Int.reduceLT, Int.reduceLE, heapFree, hid2, List.flatMap_nil, List.flatMap_cons, List.filter_nil, List.filter_cons, List.contains_cons, List.contains_nil, c12, o12_0, g12_0, o12_1, g12_1, o12_2, g12_2, o12_3, g12_3, o12_4, g12_4, o12_6a, o12_6b, u12_6, g12_6, o12_7, g12_7, o12_8, g12_8, o12_9, g12_9, o12_10, g12_10, o12_12a, o12_12b, g12_12, o12_13, g12_13, o12_11, g12_11, o12_5, g12_5, o12_14, g12_14, o12_15, g12_15, o12_17a, o12_17b, g12_17, o12_18, g12_18, o12_16, g12_16, o12_19, g12_19, o12_20, g12_20, o12_22a, o12_22b, g12_22, o12_23, g12_23, o12_21, g12_21, o12_24, g12_24, he, Heap.get_push, Heap.get_set, a0, a1, lf, lf2, n1, n2, n3, k1', k2', k3', g0, g1, g2, g3]
  cases m3
  · rw [decide_eq_false (lendec a.rels b.rels (by have := of_decide_eq_false g3; omega))]
    simp (maxDischargeDepth := 8) -implicitDefEqProofs only [sr1, kA, Q.ev, evQ, evP, evalO, resultsA, tupA, AV.rfL, callV, exists_eq', List.length_set, ne_eq, Nat.reduceEqDiff, Nat.reduceLT, reduceCtorEq, Nat.reduceAdd, List.getElem?_cons_succ, List.getElem?_cons_zero, Option.map, if_true, if_false, beq_self_eq_true, List.length_cons, List.length_nil, List.cons_append, List.nil_append, List.append_nil, ite_self, Int.reduceBNe, Int.reduceBEq, Int.reduceLT, Int.reduceLE, heapFree, hid2, List.flatMap_nil, List.flatMap_cons, List.filter_nil, List.filter_cons, List.contains_cons, List.contains_nil, c12, o12_0, g12_0, o12_1, g12_1, o12_2, g12_2, o12_3, g12_3, o12_4, g12_4, o12_6a, o12_6b, u12_6, g12_6, o12_7, g12_7, o12_8, g12_8, o12_9, g12_9, o12_10, g12_10, o12_12a, o12_12b, g12_12, o12_13, g12_13, o12_11, g12_11, o12_5, g12_5, o12_14, g12_14, o12_15, g12_15, o12_17a, o12_17b, g12_17, o12_18, g12_18, o12_16, g12_16, o12_19, g12_19, o12_20, g12_20, o12_22a, o12_22b, g12_22, o12_23, g12_23, o12_21, g12_21, o12_24, g12_24, he, Heap.get_push, Heap.get_set, a0, a1, lf, lf2, n1, n2, n3, k1', k2', k3', g0, g1, g2, g3]
  simp (maxDischargeDepth := 8) -implicitDefEqProofs only [sr1, kA, Q.ev, evQ, evP, evalO, resultsA, tupA, AV.rfL, callV, exists_eq', List.length_set, ne_eq, Nat.reduceEqDiff, Nat.reduceLT, reduceCtorEq, Nat.reduceAdd, List.getElem?_cons_succ, List.getElem?_cons_zero, Option.map, if_true, if_false, beq_self_eq_true, List.length_cons, List.length_nil, List.cons_append, List.nil_append, List.append_nil, ite_self, Int.reduceBNe, Int.reduceBEq, Int.reduceLT, Int.reduceLE, heapFree, hid2, List.flatMap_nil, List.flatMap_cons, List.filter_nil, List.filter_cons, List.contains_cons, List.contains_nil, c12, o12_0, g12_0, o12_1, g12_1, o12_2, g12_2, o12_3, g12_3, o12_4, g12_4, o12_6a, o12_6b, u12_6, g12_6, o12_7, g12_7, o12_8, g12_8, o12_9, g12_9, o12_10, g12_10, o12_12a, o12_12b, g12_12, o12_13, g12_13, o12_11, g12_11, o12_5, g12_5, o12_14, g12_14, o12_15, g12_15, o12_17a, o12_17b, g12_17, o12_18, g12_18, o12_16, g12_16, o12_19, g12_19, o12_20, g12_20, o12_22a, o12_22b, g12_22, o12_23, g12_23, o12_21, g12_21, o12_24, g12_24, he, Heap.get_push, Heap.get_set, a0, a1, lf, lf2, n1, n2, n3, k1', k2', k3', g0, g1, g2, g3]
  have e1 : a.secs.length = b.secs.length := by have := of_decide_eq_true g1; omega
  have e2 : a.syms.length = b.syms.length := by have := of_decide_eq_true g2; omega
  have e3 : a.rels.length = b.rels.length := by have := of_decide_eq_true g3; omega
  generalize hr : om Try.prog _ _ c12_l0 _ = r
  obtain ⟨x, f1, H1, rfl, hx1, ⟨rfl, hq, he1, b2, b3⟩ | ⟨rfl, p4, hq⟩⟩ := rn_of hr (same2_l0 a b H.next (H.next + 1) lo' vs vy vr ws wy wr hs.s hby e1 _ hb hlo' 0 _ _ (Nat.zero_le _)
    ⟨Ext.refl _, rfl, by simp only [gd_eq, gd_ne, ne_eq, not_false_eq_true, Nat.reduceEqDiff, Nat.reduceLT, List.length_set, reduceCtorEq, he], by simp only [gd_eq, gd_ne, ne_eq, not_false_eq_true, Nat.reduceEqDiff, Nat.reduceLT, List.length_set, reduceCtorEq, he], by simp only [gd_eq, gd_ne, ne_eq, not_false_eq_true, Nat.reduceEqDiff, Nat.reduceLT, List.length_set, reduceCtorEq, he], by simp only [gd_eq, gd_ne, ne_eq, not_false_eq_true, Nat.reduceEqDiff, Nat.reduceLT, List.length_set, reduceCtorEq, he]; rfl⟩)
  · clear hr
    simp (maxDischargeDepth := 8) -implicitDefEqProofs only [sr1, kA, Q.ev, evQ, evP, evalO, resultsA, tupA, AV.rfL, callV, exists_eq', List.length_set, ne_eq, Nat.reduceEqDiff, Nat.reduceLT, reduceCtorEq, Nat.reduceAdd, List.getElem?_cons_succ, List.getElem?_cons_zero, Option.map, if_true, if_false, beq_self_eq_true, List.length_cons, List.length_nil, List.cons_append, List.nil_append, List.append_nil, ite_self, Int.reduceBNe, Int.reduceBEq, Int.reduceLT, Int.reduceLE, heapFree, hid2, List.flatMap_nil, List.flatMap_cons, List.filter_nil, List.filter_cons, List.contains_cons, List.contains_nil, c12, o12_0, g12_0, o12_1, g12_1, o12_2, g12_2, o12_3, g12_3, o12_4, g12_4, o12_6a, o12_6b, u12_6, g12_6, o12_7, g12_7, o12_8, g12_8, o12_9, g12_9, o12_10, g12_10, o12_12a, o12_12b, g12_12, o12_13, g12_13, o12_11, g12_11, o12_5, g12_5, o12_14, g12_14, o12_15, g12_15, o12_17a, o12_17b, g12_17, o12_18, g12_18, o12_16, g12_16, o12_19, g12_19, o12_20, g12_20, o12_22a, o12_22b, g12_22, o12_23, g12_23, o12_21, g12_21, o12_24, g12_24, he, Heap.get_push, Heap.get_set, he1, b2, b3, decide_eq_true hq]
    generalize hr : om Try.prog _ _ c12_l2 _ = r
    obtain ⟨x, f2, H2, rfl, rfl, ⟨rfl, hq, he2, d2, d3⟩ | ⟨rfl, p4, hq⟩⟩ := rn_of hr (same2_l2 a b H.next (H.next + 1) lo' vs vy vr ws wy wr hs.y e2 _ (hb.ext hx1) 0 _ _ (Nat.zero_le _)
      ⟨rfl, rfl, by simp only [gd_eq, gd_ne, ne_eq, not_false_eq_true, Nat.reduceEqDiff, Nat.reduceLT, List.length_set, reduceCtorEq, he, he1], by simp only [gd_eq, gd_ne, ne_eq, not_false_eq_true, Nat.reduceEqDiff, Nat.reduceLT, List.length_set, reduceCtorEq, he, b2], by simp only [gd_eq, gd_ne, ne_eq, not_false_eq_true, Nat.reduceEqDiff, Nat.reduceLT, List.length_set, reduceCtorEq, he, b3], by simp only [gd_eq, gd_ne, ne_eq, not_false_eq_true, Nat.reduceEqDiff, Nat.reduceLT, List.length_set, reduceCtorEq, he, he1]; rfl⟩)
    · clear hr
      simp (maxDischargeDepth := 8) -implicitDefEqProofs only [sr1, kA, Q.ev, evQ, evP, evalO, resultsA, tupA, AV.rfL, callV, exists_eq', List.length_set, ne_eq, Nat.reduceEqDiff, Nat.reduceLT, reduceCtorEq, Nat.reduceAdd, List.getElem?_cons_succ, List.getElem?_cons_zero, Option.map, if_true, if_false, beq_self_eq_true, List.length_cons, List.length_nil, List.cons_append, List.nil_append, List.append_nil, ite_self, Int.reduceBNe, Int.reduceBEq, Int.reduceLT, Int.reduceLE, heapFree, hid2, List.flatMap_nil, List.flatMap_cons, List.filter_nil, List.filter_cons, List.contains_cons, List.contains_nil, c12, o12_0, g12_0, o12_1, g12_1, o12_2, g12_2, o12_3, g12_3, o12_4, g12_4, o12_6a, o12_6b, u12_6, g12_6, o12_7, g12_7, o12_8, g12_8, o12_9, g12_9, o12_10, g12_10, o12_12a, o12_12b, g12_12, o12_13, g12_13, o12_11, g12_11, o12_5, g12_5, o12_14, g12_14, o12_15, g12_15, o12_17a, o12_17b, g12_17, o12_18, g12_18, o12_16, g12_16, o12_19, g12_19, o12_20, g12_20, o12_22a, o12_22b, g12_22, o12_23, g12_23, o12_21, g12_21, o12_24, g12_24, he, Heap.get_push, Heap.get_set, he2, d2, d3, decide_eq_true hq]
      generalize hr : om Try.prog _ _ c12_l3 _ = r
      have hu := unch_ext (ex.trans hx1)
      obtain ⟨x, f3, H3, rfl, rfl, ⟨rfl, hq, he3, _⟩ | ⟨rfl, p4, hq⟩⟩ := rn_of hr (same2_l3 a b H.next (H.next + 1) lo' vs vy vr ws wy wr hs.r e3 _ (hb.ext hx1) 0 _ _ (Nat.zero_le _)
        ⟨rfl, rfl, by simp only [gd_eq, gd_ne, ne_eq, not_false_eq_true, Nat.reduceEqDiff, Nat.reduceLT, List.length_set, reduceCtorEq, he, he2], by simp only [gd_eq, gd_ne, ne_eq, not_false_eq_true, Nat.reduceEqDiff, Nat.reduceLT, List.length_set, reduceCtorEq, he, d2], by simp only [gd_eq, gd_ne, ne_eq, not_false_eq_true, Nat.reduceEqDiff, Nat.reduceLT, List.length_set, reduceCtorEq, he, d3], by simp only [gd_eq, gd_ne, ne_eq, not_false_eq_true, Nat.reduceEqDiff, Nat.reduceLT, List.length_set, reduceCtorEq, he, he2]; rfl⟩)
      · simp (maxDischargeDepth := 8) -implicitDefEqProofs only [sr1, kA, Q.ev, evQ, evP, evalO, resultsA, tupA, AV.rfL, callV, exists_eq', List.length_set, ne_eq, Nat.reduceEqDiff, Nat.reduceLT, reduceCtorEq, Nat.reduceAdd, List.getElem?_cons_succ, List.getElem?_cons_zero, Option.map, if_true, if_false, beq_self_eq_true, List.length_cons, List.length_nil, List.cons_append, List.nil_append, List.append_nil, ite_self, Int.reduceBNe, Int.reduceBEq, Int.reduceLT, Int.reduceLE, heapFree, hid2, List.flatMap_nil, List.flatMap_cons, List.filter_nil, List.filter_cons, List.contains_cons, List.contains_nil, c12, o12_0, g12_0, o12_1, g12_1, o12_2, g12_2, o12_3, g12_3, o12_4, g12_4, o12_6a, o12_6b, u12_6, g12_6, o12_7, g12_7, o12_8, g12_8, o12_9, g12_9, o12_10, g12_10, o12_12a, o12_12b, g12_12, o12_13, g12_13, o12_11, g12_11, o12_5, g12_5, o12_14, g12_14, o12_15, g12_15, o12_17a, o12_17b, g12_17, o12_18, g12_18, o12_16, g12_16, o12_19, g12_19, o12_20, g12_20, o12_22a, o12_22b, g12_22, o12_23, g12_23, o12_21, g12_21, o12_24, g12_24, he, Heap.get_push, Heap.get_set, he3, decide_eq_true hq, hu]
      · simp (maxDischargeDepth := 8) -implicitDefEqProofs only [sr1, kA, Q.ev, evQ, evP, evalO, resultsA, tupA, AV.rfL, callV, exists_eq', List.length_set, ne_eq, Nat.reduceEqDiff, Nat.reduceLT, reduceCtorEq, Nat.reduceAdd, List.getElem?_cons_succ, List.getElem?_cons_zero, Option.map, if_true, if_false, beq_self_eq_true, List.length_cons, List.length_nil, List.cons_append, List.nil_append, List.append_nil, ite_self, Int.reduceBNe, Int.reduceBEq, Int.reduceLT, Int.reduceLE, heapFree, hid2, List.flatMap_nil, List.flatMap_cons, List.filter_nil, List.filter_cons, List.contains_cons, List.contains_nil, c12, o12_0, g12_0, o12_1, g12_1, o12_2, g12_2, o12_3, g12_3, o12_4, g12_4, o12_6a, o12_6b, u12_6, g12_6, o12_7, g12_7, o12_8, g12_8, o12_9, g12_9, o12_10, g12_10, o12_12a, o12_12b, g12_12, o12_13, g12_13, o12_11, g12_11, o12_5, g12_5, o12_14, g12_14, o12_15, g12_15, o12_17a, o12_17b, g12_17, o12_18, g12_18, o12_16, g12_16, o12_19, g12_19, o12_20, g12_20, o12_22a, o12_22b, g12_22, o12_23, g12_23, o12_21, g12_21, o12_24, g12_24, he, Heap.get_push, Heap.get_set, p4, decide_eq_false hq, hu]
    · have hu := unch_ext (ex.trans hx1)
      simp (maxDischargeDepth := 8) -implicitDefEqProofs only [sr1, kA, Q.ev, evQ, evP, evalO, resultsA, tupA, AV.rfL, callV, exists_eq', List.length_set, ne_eq, Nat.reduceEqDiff, Nat.reduceLT, reduceCtorEq, Nat.reduceAdd, List.getElem?_cons_succ, List.getElem?_cons_zero, Option.map, if_true, if_false, beq_self_eq_true, List.length_cons, List.length_nil, List.cons_append, List.nil_append, List.append_nil, ite_self, Int.reduceBNe, Int.reduceBEq, Int.reduceLT, Int.reduceLE, heapFree, hid2, List.flatMap_nil, List.flatMap_cons, List.filter_nil, List.filter_cons, List.contains_cons, List.contains_nil, c12, o12_0, g12_0, o12_1, g12_1, o12_2, g12_2, o12_3, g12_3, o12_4, g12_4, o12_6a, o12_6b, u12_6, g12_6, o12_7, g12_7, o12_8, g12_8, o12_9, g12_9, o12_10, g12_10, o12_12a, o12_12b, g12_12, o12_13, g12_13, o12_11, g12_11, o12_5, g12_5, o12_14, g12_14, o12_15, g12_15, o12_17a, o12_17b, g12_17, o12_18, g12_18, o12_16, g12_16, o12_19, g12_19, o12_20, g12_20, o12_22a, o12_22b, g12_22, o12_23, g12_23, o12_21, g12_21, o12_24, g12_24, he, Heap.get_push, Heap.get_set, p4, decide_eq_false hq, hu]
  · have hu := unch_ext (ex.trans hx1)
    simp (maxDischargeDepth := 8) -implicitDefEqProofs only [sr1, kA, Q.ev, evQ, evP, evalO, resultsA, tupA, AV.rfL, callV, exists_eq', List.length_set, ne_eq, Nat.reduceEqDiff, Nat.reduceLT, reduceCtorEq, Nat.reduceAdd, List.getElem?_cons_succ, List.getElem?_cons_zero, Option.map, if_true, if_false, beq_self_eq_true, List.length_cons, List.length_nil, List.cons_append, List.nil_append, List.append_nil, ite_self, Int.reduceBNe, Int.reduceBEq, Int.reduceLT, Int.reduceLE, heapFree, hid2, List.flatMap_nil, List.flatMap_cons, List.filter_nil, List.filter_cons, List.contains_cons, List.contains_nil, c12, o12_0, g12_0, o12_1, g12_1, o12_2, g12_2, o12_3, g12_3, o12_4, g12_4, o12_6a, o12_6b, u12_6, g12_6, o12_7, g12_7, o12_8, g12_8, o12_9, g12_9, o12_10, g12_10, o12_12a, o12_12b, g12_12, o12_13, g12_13, o12_11, g12_11, o12_5, g12_5, o12_14, g12_14, o12_15, g12_15, o12_17a, o12_17b, g12_17, o12_18, g12_18, o12_16, g12_16, o12_19, g12_19, o12_20, g12_20, o12_22a, o12_22b, g12_22, o12_23, g12_23, o12_21, g12_21, o12_24, g12_24, he, Heap.get_push, Heap.get_set, p4, decide_eq_false hq, hu]
end Go.Proofs.Ytejmfbeiejlgkaa.obj
/-! The functions below the Object laws, P13: copies of lists. Conditions: in each statement. -/
namespace Go.Proofs.Ytejmfbeiejlgkaa.obj
open Go Go.Ab
set_option maxRecDepth 100000
set_option linter.unusedSimpArgs false
set_option linter.unusedVariables false
/-- own memory that holds these values (or nil), made since H0 -/
def Own (H0 H : Heap) (sz : Nat) (e : TypeId) (v : AV) (vs : List AV) : Prop := (v = .rsl none 0 0 [] ∧ vs = []) ∨
  ∃ b, v = .sl b 0 vs.length sz ∧ H0.next ≤ b ∧ b < H.next ∧ H.get b = some (.cells e (vs.flatMap AV.cells))
theorem Own.sv {H0 H : Heap} {sz : Nat} {e : TypeId} {v : AV} {vs : List AV} (h : Own H0 H sz e v vs) (hc : ∀ x ∈ vs, x.cells.length = sz) : Sv H sz v vs := by
  rcases h with ⟨rfl, rfl⟩ | ⟨b, rfl, h1, h2, h3⟩
  · exact ⟨hc, .inl ⟨none, 0, 0, rfl, fun h => absurd rfl h⟩⟩
  · refine ⟨hc, .inr ⟨b, 0, e, _, rfl, h2, h3, ?_, ?_⟩⟩
    · rw [flat_len vs hc, Nat.zero_add]; exact Nat.le_refl _
    · rw [Nat.zero_mul, List.drop_zero, ← flat_len vs hc, List.take_length]
theorem Own.ext {H0 H H' : Heap} {sz : Nat} {e : TypeId} {v : AV} {vs : List AV} (h : Own H0 H sz e v vs) (k : Ext H H') : Own H0 H' sz e v vs := by
  rcases h with h | ⟨b, h1, h2, h3, h4⟩
  · exact .inl h
  · exact .inr ⟨b, h1, h2, Nat.lt_of_lt_of_le h3 k.1, by rw [k.2.1 b h3]; exact h4⟩
theorem info_of {t n m : Nat} (h : (Try.prog.info? t).map (fun i => (i.size, i.bytes)) = some (n, m)) : ∃ i, Try.prog.info? t = some i ∧ i.size = n ∧ i.bytes = m := by
  cases hi : Try.prog.info? t with
  | none => rw [hi] at h; cases h
  | some i => rw [hi] at h; simp at h; exact ⟨i, rfl, h.1, h.2⟩

theorem clone16_run (v : AV) (vs : List AV) (lo : Nat) (H : Heap) (hv : Sv H 3 v vs) (hlf : ∀ x ∈ vs, leafs x.cells = true) (hl : vs.length ≤ 1000000) (hlo : lo ≤ H.next) : ∃ v' H', callA Try.prog (om Try.prog) lo 16 [v] H = some (v', H') ∧ Ext H H' ∧ Own H H' 3 39 v' vs := by
  obtain ⟨e, he, a0, hc⟩ := c16_in v lo H
  rw [hc]
  generalize AV.rfL [v] = c
  generalize hlq : (if c = true then H.next else lo) = lo'
  have hlo' : lo' ≤ H.next := by rw [← hlq]; split <;> omega
  by_cases hn : ∃ cap s, v = .rsl none cap s vs
  · obtain ⟨cap, s, rfl⟩ := hn
    have hvs : vs = [] := by
      obtain ⟨_, ⟨a, cap', s', h1, h2⟩ | ⟨b, i, t, c, h1, _⟩⟩ := hv
      · cases h1
        cases vs with
        | nil => rfl
        | cons x l => exact absurd (h2 (by simp)).1 (by simp)
      · cases h1
    subst hvs
    have eq : binA Try.prog .eql 22 (.rsl none cap s []) (.rsl none 0 0 []) = some (.bool true) := by simp [binA, eqA, Try.underlying22]
    simp (maxDischargeDepth := 8) -implicitDefEqProofs only [sr1, kA, Q.ev, evQ, evP, evalO, resultsA, tupA, AV.rfL, callV, exists_eq', List.length_set, ne_eq, Nat.reduceEqDiff, Nat.reduceLT, reduceCtorEq, Nat.reduceAdd, List.getElem?_cons_succ, List.getElem?_cons_zero, Option.map, if_true, if_false, beq_self_eq_true, List.length_cons, List.length_nil, List.cons_append, List.nil_append, List.append_nil, ite_self, Int.reduceBNe, Int.reduceBEq, Int.reduceLT, Int.reduceLE, heapFree, hid2, List.flatMap_nil, List.flatMap_cons, List.filter_nil, List.filter_cons, List.contains_cons, List.contains_nil, c16, o16_0, g16_0, o16_1, g16_1, o16_2, g16_2, o16_3, g16_3, a0, he, eq]
    exact ⟨_, _, rfl, Ext.refl H, .inl ⟨rfl, rfl⟩⟩
  · have eq : binA Try.prog .eql 22 v (.rsl none 0 0 []) = some (.bool false) := by
      obtain ⟨_, ⟨a, cap', s', rfl, h2⟩ | ⟨b, i, t, c, rfl, _⟩⟩ := hv
      · cases a with
        | none => exact absurd ⟨cap', s', rfl⟩ hn
        | some a => simp [binA, eqA, Try.underlying22]
      · simp [binA, eqA, Try.underlying22]
    obtain ⟨i, hi, hi1, hi2⟩ := info_of in39
    have ap := append_own (P := Try.prog) (lo := lo') (b := H.next) (m := 0) (sz := 3) (T := 22) (e := 39) (c := []) (H := H.push (.cells 39 [])) Try.underlying22 hi ze39 hi1 rfl (by decide) ce39 (hv.ext ((Ext.refl H).push _)) hlf (by rw [Heap.get_push, if_pos rfl]) rfl hlo' (by simp only [appendFits, hi2, Bool.and_eq_true, decide_eq_true_eq]; omega)
    have bs : bslA H 39 3 [] 0 [] = some (.sl H.next 0 0 3, H.push (.cells 39 [])) := rfl
    simp (maxDischargeDepth := 8) -implicitDefEqProofs only [sr1, kA, Q.ev, evQ, evP, evalO, resultsA, tupA, AV.rfL, callV, exists_eq', List.length_set, ne_eq, Nat.reduceEqDiff, Nat.reduceLT, reduceCtorEq, Nat.reduceAdd, List.getElem?_cons_succ, List.getElem?_cons_zero, Option.map, if_true, if_false, beq_self_eq_true, List.length_cons, List.length_nil, List.cons_append, List.nil_append, List.append_nil, ite_self, Int.reduceBNe, Int.reduceBEq, Int.reduceLT, Int.reduceLE, heapFree, hid2, List.flatMap_nil, List.flatMap_cons, List.filter_nil, List.filter_cons, List.contains_cons, List.contains_nil, c16, o16_0, g16_0, o16_1, g16_1, o16_2, g16_2, o16_3, g16_3, opA, aop, Option.bind, evalL, List.getElem?_toArray, List.getElem?_cons_zero, List.getElem?_cons_succ, a0, he, eq, bs, ap]
    have ex : Ext H (appR 39 H.next 0 3 [] vs (H.push (.cells 39 []))).2 := appR_ext ((Ext.refl H).push _) (Nat.le_refl _)
    unfold appR at ex ⊢
    by_cases hz : vs = []
    · subst hz
      simp only [if_true, opr_some, rf_sl] at ex ⊢
      simp (maxDischargeDepth := 8) -implicitDefEqProofs only [sr1, kA, Q.ev, evQ, evP, evalO, resultsA, tupA, AV.rfL, callV, exists_eq', List.length_set, ne_eq, Nat.reduceEqDiff, Nat.reduceLT, reduceCtorEq, Nat.reduceAdd, List.getElem?_cons_succ, List.getElem?_cons_zero, Option.map, if_true, if_false, beq_self_eq_true, List.length_cons, List.length_nil, List.cons_append, List.nil_append, List.append_nil, ite_self, Int.reduceBNe, Int.reduceBEq, Int.reduceLT, Int.reduceLE, heapFree, hid2, List.flatMap_nil, List.flatMap_cons, List.filter_nil, List.filter_cons, List.contains_cons, List.contains_nil, c16, o16_0, g16_0, o16_1, g16_1, o16_2, g16_2, o16_3, g16_3, a0, he]
      exact ⟨_, _, rfl, ex, .inr ⟨H.next, rfl, Nat.le_refl _, by simp, by rw [Heap.get_push, if_pos rfl]; rfl⟩⟩
    · simp only [if_neg hz] at ex ⊢
      simp (maxDischargeDepth := 8) -implicitDefEqProofs only [sr1, kA, Q.ev, evQ, evP, evalO, resultsA, tupA, AV.rfL, callV, exists_eq', List.length_set, ne_eq, Nat.reduceEqDiff, Nat.reduceLT, reduceCtorEq, Nat.reduceAdd, List.getElem?_cons_succ, List.getElem?_cons_zero, Option.map, if_true, if_false, beq_self_eq_true, List.length_cons, List.length_nil, List.cons_append, List.nil_append, List.append_nil, ite_self, Int.reduceBNe, Int.reduceBEq, Int.reduceLT, Int.reduceLE, heapFree, hid2, List.flatMap_nil, List.flatMap_cons, List.filter_nil, List.filter_cons, List.contains_cons, List.contains_nil, c16, o16_0, g16_0, o16_1, g16_1, o16_2, g16_2, o16_3, g16_3, a0, he]
      refine ⟨_, _, rfl, ex, .inr ⟨H.next + 1, by rw [Nat.zero_add], by omega, by simp [Heap.kill, Heap.setO, Heap.push], ?_⟩⟩
      rw [Heap.get_push, if_pos (by simp)]

theorem clone17_run (v : AV) (vs : List AV) (lo : Nat) (H : Heap) (hv : Sv H 3 v vs) (hlf : ∀ x ∈ vs, leafs x.cells = true) (hl : vs.length ≤ 1000000) (hlo : lo ≤ H.next) : ∃ v' H', callA Try.prog (om Try.prog) lo 17 [v] H = some (v', H') ∧ Ext H H' ∧ Own H H' 3 41 v' vs := by
  obtain ⟨e, he, a0, hc⟩ := c17_in v lo H
  rw [hc]
  generalize AV.rfL [v] = c
  generalize hlq : (if c = true then H.next else lo) = lo'
  have hlo' : lo' ≤ H.next := by rw [← hlq]; split <;> omega
  by_cases hn : ∃ cap s, v = .rsl none cap s vs
  · obtain ⟨cap, s, rfl⟩ := hn
    have hvs : vs = [] := by
      obtain ⟨_, ⟨a, cap', s', h1, h2⟩ | ⟨b, i, t, c, h1, _⟩⟩ := hv
      · cases h1
        cases vs with
        | nil => rfl
        | cons x l => exact absurd (h2 (by simp)).1 (by simp)
      · cases h1
    subst hvs
    have eq : binA Try.prog .eql 23 (.rsl none cap s []) (.rsl none 0 0 []) = some (.bool true) := by simp [binA, eqA, Try.underlying23]
    simp (maxDischargeDepth := 8) -implicitDefEqProofs only [sr1, kA, Q.ev, evQ, evP, evalO, resultsA, tupA, AV.rfL, callV, exists_eq', List.length_set, ne_eq, Nat.reduceEqDiff, Nat.reduceLT, reduceCtorEq, Nat.reduceAdd, List.getElem?_cons_succ, List.getElem?_cons_zero, Option.map, if_true, if_false, beq_self_eq_true, List.length_cons, List.length_nil, List.cons_append, List.nil_append, List.append_nil, ite_self, Int.reduceBNe, Int.reduceBEq, Int.reduceLT, Int.reduceLE, heapFree, hid2, List.flatMap_nil, List.flatMap_cons, List.filter_nil, List.filter_cons, List.contains_cons, List.contains_nil, c17, o17_0, g17_0, o17_1, g17_1, o17_2, g17_2, o17_3, g17_3, a0, he, eq]
    exact ⟨_, _, rfl, Ext.refl H, .inl ⟨rfl, rfl⟩⟩
  · have eq : binA Try.prog .eql 23 v (.rsl none 0 0 []) = some (.bool false) := by
      obtain ⟨_, ⟨a, cap', s', rfl, h2⟩ | ⟨b, i, t, c, rfl, _⟩⟩ := hv
      · cases a with
        | none => exact absurd ⟨cap', s', rfl⟩ hn
        | some a => simp [binA, eqA, Try.underlying23]
      · simp [binA, eqA, Try.underlying23]
    obtain ⟨i, hi, hi1, hi2⟩ := info_of in41
    have ap := append_own (P := Try.prog) (lo := lo') (b := H.next) (m := 0) (sz := 3) (T := 23) (e := 41) (c := []) (H := H.push (.cells 41 [])) Try.underlying23 hi ze41 hi1 rfl (by decide) ce41 (hv.ext ((Ext.refl H).push _)) hlf (by rw [Heap.get_push, if_pos rfl]) rfl hlo' (by simp only [appendFits, hi2, Bool.and_eq_true, decide_eq_true_eq]; omega)
    have bs : bslA H 41 3 [] 0 [] = some (.sl H.next 0 0 3, H.push (.cells 41 [])) := rfl
    simp (maxDischargeDepth := 8) -implicitDefEqProofs only [sr1, kA, Q.ev, evQ, evP, evalO, resultsA, tupA, AV.rfL, callV, exists_eq', List.length_set, ne_eq, Nat.reduceEqDiff, Nat.reduceLT, reduceCtorEq, Nat.reduceAdd, List.getElem?_cons_succ, List.getElem?_cons_zero, Option.map, if_true, if_false, beq_self_eq_true, List.length_cons, List.length_nil, List.cons_append, List.nil_append, List.append_nil, ite_self, Int.reduceBNe, Int.reduceBEq, Int.reduceLT, Int.reduceLE, heapFree, hid2, List.flatMap_nil, List.flatMap_cons, List.filter_nil, List.filter_cons, List.contains_cons, List.contains_nil, c17, o17_0, g17_0, o17_1, g17_1, o17_2, g17_2, o17_3, g17_3, opA, aop, Option.bind, evalL, List.getElem?_toArray, List.getElem?_cons_zero, List.getElem?_cons_succ, a0, he, eq, bs, ap]
    have ex : Ext H (appR 41 H.next 0 3 [] vs (H.push (.cells 41 []))).2 := appR_ext ((Ext.refl H).push _) (Nat.le_refl _)
    unfold appR at ex ⊢
    by_cases hz : vs = []
    · subst hz
      simp only [if_true, opr_some, rf_sl] at ex ⊢
      simp (maxDischargeDepth := 8) -implicitDefEqProofs only [sr1, kA, Q.ev, evQ, evP, evalO, resultsA, tupA, AV.rfL, callV, exists_eq', List.length_set, ne_eq, Nat.reduceEqDiff, Nat.reduceLT, reduceCtorEq, Nat.reduceAdd, List.getElem?_cons_succ, List.getElem?_cons_zero, Option.map, if_true, if_false, beq_self_eq_true, List.length_cons, List.length_nil, List.cons_append, List.nil_append, List.append_nil, ite_self, Int.reduceBNe, Int.reduceBEq, Int.reduceLT, Int.reduceLE, heapFree, hid2, List.flatMap_nil, List.flatMap_cons, List.filter_nil, List.filter_cons, List.contains_cons, List.contains_nil, c17, o17_0, g17_0, o17_1, g17_1, o17_2, g17_2, o17_3, g17_3, a0, he]
      exact ⟨_, _, rfl, ex, .inr ⟨H.next, rfl, Nat.le_refl _, by simp, by rw [Heap.get_push, if_pos rfl]; rfl⟩⟩
    · simp only [if_neg hz] at ex ⊢
      simp (maxDischargeDepth := 8) -implicitDefEqProofs only [sr1, kA, Q.ev, evQ, evP, evalO, resultsA, tupA, AV.rfL, callV, exists_eq', List.length_set, ne_eq, Nat.reduceEqDiff, Nat.reduceLT, reduceCtorEq, Nat.reduceAdd, List.getElem?_cons_succ, List.getElem?_cons_zero, Option.map, if_true, if_false, beq_self_eq_true, List.length_cons, List.length_nil, List.cons_append, List.nil_append, List.append_nil, ite_self, Int.reduceBNe, Int.reduceBEq, Int.reduceLT, Int.reduceLE, heapFree, hid2, List.flatMap_nil, List.flatMap_cons, List.filter_nil, List.filter_cons, List.contains_cons, List.contains_nil, c17, o17_0, g17_0, o17_1, g17_1, o17_2, g17_2, o17_3, g17_3, a0, he]
      refine ⟨_, _, rfl, ex, .inr ⟨H.next + 1, by rw [Nat.zero_add], by omega, by simp [Heap.kill, Heap.setO, Heap.push], ?_⟩⟩
      rw [Heap.get_push, if_pos (by simp)]

theorem clone18_run (v : AV) (vs : List AV) (lo : Nat) (H : Heap) (hv : Sv H 8 v vs) (hlf : ∀ x ∈ vs, leafs x.cells = true) (hl : vs.length ≤ 1000000) (hlo : lo ≤ H.next) : ∃ v' H', callA Try.prog (om Try.prog) lo 18 [v] H = some (v', H') ∧ Ext H H' ∧ Own H H' 8 43 v' vs := by
  obtain ⟨e, he, a0, hc⟩ := c18_in v lo H
  rw [hc]
  generalize AV.rfL [v] = c
  generalize hlq : (if c = true then H.next else lo) = lo'
  have hlo' : lo' ≤ H.next := by rw [← hlq]; split <;> omega
  by_cases hn : ∃ cap s, v = .rsl none cap s vs
  · obtain ⟨cap, s, rfl⟩ := hn
    have hvs : vs = [] := by
      obtain ⟨_, ⟨a, cap', s', h1, h2⟩ | ⟨b, i, t, c, h1, _⟩⟩ := hv
      · cases h1
        cases vs with
        | nil => rfl
        | cons x l => exact absurd (h2 (by simp)).1 (by simp)
      · cases h1
    subst hvs
    have eq : binA Try.prog .eql 24 (.rsl none cap s []) (.rsl none 0 0 []) = some (.bool true) := by simp [binA, eqA, Try.underlying24]
    simp (maxDischargeDepth := 8) -implicitDefEqProofs only [sr1, kA, Q.ev, evQ, evP, evalO, resultsA, tupA, AV.rfL, callV, exists_eq', List.length_set, ne_eq, Nat.reduceEqDiff, Nat.reduceLT, reduceCtorEq, Nat.reduceAdd, List.getElem?_cons_succ, List.getElem?_cons_zero, Option.map, if_true, if_false, beq_self_eq_true, List.length_cons, List.length_nil, List.cons_append, List.nil_append, List.append_nil, ite_self, Int.reduceBNe, Int.reduceBEq, Int.reduceLT, Int.reduceLE, heapFree, hid2, List.flatMap_nil, List.flatMap_cons, List.filter_nil, List.filter_cons, List.contains_cons, List.contains_nil, c18, o18_0, g18_0, o18_1, g18_1, o18_2, g18_2, o18_3, g18_3, a0, he, eq]
    exact ⟨_, _, rfl, Ext.refl H, .inl ⟨rfl, rfl⟩⟩
  · have eq : binA Try.prog .eql 24 v (.rsl none 0 0 []) = some (.bool false) := by
      obtain ⟨_, ⟨a, cap', s', rfl, h2⟩ | ⟨b, i, t, c, rfl, _⟩⟩ := hv
      · cases a with
        | none => exact absurd ⟨cap', s', rfl⟩ hn
        | some a => simp [binA, eqA, Try.underlying24]
      · simp [binA, eqA, Try.underlying24]
    obtain ⟨i, hi, hi1, hi2⟩ := info_of in43
    have ap := append_own (P := Try.prog) (lo := lo') (b := H.next) (m := 0) (sz := 8) (T := 24) (e := 43) (c := []) (H := H.push (.cells 43 [])) Try.underlying24 hi ze43 hi1 rfl (by decide) ce43 (hv.ext ((Ext.refl H).push _)) hlf (by rw [Heap.get_push, if_pos rfl]) rfl hlo' (by simp only [appendFits, hi2, Bool.and_eq_true, decide_eq_true_eq]; omega)
    have bs : bslA H 43 8 [] 0 [] = some (.sl H.next 0 0 8, H.push (.cells 43 [])) := rfl
    simp (maxDischargeDepth := 8) -implicitDefEqProofs only [sr1, kA, Q.ev, evQ, evP, evalO, resultsA, tupA, AV.rfL, callV, exists_eq', List.length_set, ne_eq, Nat.reduceEqDiff, Nat.reduceLT, reduceCtorEq, Nat.reduceAdd, List.getElem?_cons_succ, List.getElem?_cons_zero, Option.map, if_true, if_false, beq_self_eq_true, List.length_cons, List.length_nil, List.cons_append, List.nil_append, List.append_nil, ite_self, Int.reduceBNe, Int.reduceBEq, Int.reduceLT, Int.reduceLE, heapFree, hid2, List.flatMap_nil, List.flatMap_cons, List.filter_nil, List.filter_cons, List.contains_cons, List.contains_nil, c18, o18_0, g18_0, o18_1, g18_1, o18_2, g18_2, o18_3, g18_3, opA, aop, Option.bind, evalL, List.getElem?_toArray, List.getElem?_cons_zero, List.getElem?_cons_succ, a0, he, eq, bs, ap]
    have ex : Ext H (appR 43 H.next 0 8 [] vs (H.push (.cells 43 []))).2 := appR_ext ((Ext.refl H).push _) (Nat.le_refl _)
    unfold appR at ex ⊢
    by_cases hz : vs = []
    · subst hz
      simp only [if_true, opr_some, rf_sl] at ex ⊢
      simp (maxDischargeDepth := 8) -implicitDefEqProofs only [sr1, kA, Q.ev, evQ, evP, evalO, resultsA, tupA, AV.rfL, callV, exists_eq', List.length_set, ne_eq, Nat.reduceEqDiff, Nat.reduceLT, reduceCtorEq, Nat.reduceAdd, List.getElem?_cons_succ, List.getElem?_cons_zero, Option.map, if_true, if_false, beq_self_eq_true, List.length_cons, List.length_nil, List.cons_append, List.nil_append, List.append_nil, ite_self, Int.reduceBNe, Int.reduceBEq, Int.reduceLT, Int.reduceLE, heapFree, hid2, List.flatMap_nil, List.flatMap_cons, List.filter_nil, List.filter_cons, List.contains_cons, List.contains_nil, c18, o18_0, g18_0, o18_1, g18_1, o18_2, g18_2, o18_3, g18_3, a0, he]
      exact ⟨_, _, rfl, ex, .inr ⟨H.next, rfl, Nat.le_refl _, by simp, by rw [Heap.get_push, if_pos rfl]; rfl⟩⟩
    · simp only [if_neg hz] at ex ⊢
      simp (maxDischargeDepth := 8) -implicitDefEqProofs only [sr1, kA, Q.ev, evQ, evP, evalO, resultsA, tupA, AV.rfL, callV, exists_eq', List.length_set, ne_eq, Nat.reduceEqDiff, Nat.reduceLT, reduceCtorEq, Nat.reduceAdd, List.getElem?_cons_succ, List.getElem?_cons_zero, Option.map, if_true, if_false, beq_self_eq_true, List.length_cons, List.length_nil, List.cons_append, List.nil_append, List.append_nil, ite_self, Int.reduceBNe, Int.reduceBEq, Int.reduceLT, Int.reduceLE, heapFree, hid2, List.flatMap_nil, List.flatMap_cons, List.filter_nil, List.filter_cons, List.contains_cons, List.contains_nil, c18, o18_0, g18_0, o18_1, g18_1, o18_2, g18_2, o18_3, g18_3, a0, he]
      refine ⟨_, _, rfl, ex, .inr ⟨H.next + 1, by rw [Nat.zero_add], by omega, by simp [Heap.kill, Heap.setO, Heap.push], ?_⟩⟩
      rw [Heap.get_push, if_pos (by simp)]

theorem clone19_run (v : AV) (vs : List AV) (lo : Nat) (H : Heap) (hv : Sv H 1 v vs) (hlf : ∀ x ∈ vs, leafs x.cells = true) (hl : vs.length ≤ 1000000) (hlo : lo ≤ H.next) : ∃ v' H', callA Try.prog (om Try.prog) lo 19 [v] H = some (v', H') ∧ Ext H H' ∧ Own H H' 1 5 v' vs := by
  obtain ⟨e, he, a0, hc⟩ := c19_in v lo H
  rw [hc]
  generalize AV.rfL [v] = c
  generalize hlq : (if c = true then H.next else lo) = lo'
  have hlo' : lo' ≤ H.next := by rw [← hlq]; split <;> omega
  by_cases hn : ∃ cap s, v = .rsl none cap s vs
  · obtain ⟨cap, s, rfl⟩ := hn
    have hvs : vs = [] := by
      obtain ⟨_, ⟨a, cap', s', h1, h2⟩ | ⟨b, i, t, c, h1, _⟩⟩ := hv
      · cases h1
        cases vs with
        | nil => rfl
        | cons x l => exact absurd (h2 (by simp)).1 (by simp)
      · cases h1
    subst hvs
    have eq : binA Try.prog .eql 37 (.rsl none cap s []) (.rsl none 0 0 []) = some (.bool true) := by simp [binA, eqA, Try.underlying37]
    simp (maxDischargeDepth := 8) -implicitDefEqProofs only [sr1, kA, Q.ev, evQ, evP, evalO, resultsA, tupA, AV.rfL, callV, exists_eq', List.length_set, ne_eq, Nat.reduceEqDiff, Nat.reduceLT, reduceCtorEq, Nat.reduceAdd, List.getElem?_cons_succ, List.getElem?_cons_zero, Option.map, if_true, if_false, beq_self_eq_true, List.length_cons, List.length_nil, List.cons_append, List.nil_append, List.append_nil, ite_self, Int.reduceBNe, Int.reduceBEq, Int.reduceLT, Int.reduceLE, heapFree, hid2, List.flatMap_nil, List.flatMap_cons, List.filter_nil, List.filter_cons, List.contains_cons, List.contains_nil, c19, o19_0, g19_0, o19_1, g19_1, o19_2, g19_2, o19_3, g19_3, a0, he, eq]
    exact ⟨_, _, rfl, Ext.refl H, .inl ⟨rfl, rfl⟩⟩
  · have eq : binA Try.prog .eql 37 v (.rsl none 0 0 []) = some (.bool false) := by
      obtain ⟨_, ⟨a, cap', s', rfl, h2⟩ | ⟨b, i, t, c, rfl, _⟩⟩ := hv
      · cases a with
        | none => exact absurd ⟨cap', s', rfl⟩ hn
        | some a => simp [binA, eqA, Try.underlying37]
      · simp [binA, eqA, Try.underlying37]
    obtain ⟨i, hi, hi1, hi2⟩ := info_of in5
    have ap := append_own (P := Try.prog) (lo := lo') (b := H.next) (m := 0) (sz := 1) (T := 37) (e := 5) (c := []) (H := H.push (.cells 5 [])) Try.underlying37 hi ze5 hi1 rfl (by decide) ce5 (hv.ext ((Ext.refl H).push _)) hlf (by rw [Heap.get_push, if_pos rfl]) rfl hlo' (by simp only [appendFits, hi2, Bool.and_eq_true, decide_eq_true_eq]; omega)
    have bs : bslA H 5 1 [] 0 [] = some (.sl H.next 0 0 1, H.push (.cells 5 [])) := rfl
    simp (maxDischargeDepth := 8) -implicitDefEqProofs only [sr1, kA, Q.ev, evQ, evP, evalO, resultsA, tupA, AV.rfL, callV, exists_eq', List.length_set, ne_eq, Nat.reduceEqDiff, Nat.reduceLT, reduceCtorEq, Nat.reduceAdd, List.getElem?_cons_succ, List.getElem?_cons_zero, Option.map, if_true, if_false, beq_self_eq_true, List.length_cons, List.length_nil, List.cons_append, List.nil_append, List.append_nil, ite_self, Int.reduceBNe, Int.reduceBEq, Int.reduceLT, Int.reduceLE, heapFree, hid2, List.flatMap_nil, List.flatMap_cons, List.filter_nil, List.filter_cons, List.contains_cons, List.contains_nil, c19, o19_0, g19_0, o19_1, g19_1, o19_2, g19_2, o19_3, g19_3, opA, aop, Option.bind, evalL, List.getElem?_toArray, List.getElem?_cons_zero, List.getElem?_cons_succ, a0, he, eq, bs, ap]
    have ex : Ext H (appR 5 H.next 0 1 [] vs (H.push (.cells 5 []))).2 := appR_ext ((Ext.refl H).push _) (Nat.le_refl _)
    unfold appR at ex ⊢
    by_cases hz : vs = []
    · subst hz
      simp only [if_true, opr_some, rf_sl] at ex ⊢
      simp (maxDischargeDepth := 8) -implicitDefEqProofs only [sr1, kA, Q.ev, evQ, evP, evalO, resultsA, tupA, AV.rfL, callV, exists_eq', List.length_set, ne_eq, Nat.reduceEqDiff, Nat.reduceLT, reduceCtorEq, Nat.reduceAdd, List.getElem?_cons_succ, List.getElem?_cons_zero, Option.map, if_true, if_false, beq_self_eq_true, List.length_cons, List.length_nil, List.cons_append, List.nil_append, List.append_nil, ite_self, Int.reduceBNe, Int.reduceBEq, Int.reduceLT, Int.reduceLE, heapFree, hid2, List.flatMap_nil, List.flatMap_cons, List.filter_nil, List.filter_cons, List.contains_cons, List.contains_nil, c19, o19_0, g19_0, o19_1, g19_1, o19_2, g19_2, o19_3, g19_3, a0, he]
      exact ⟨_, _, rfl, ex, .inr ⟨H.next, rfl, Nat.le_refl _, by simp, by rw [Heap.get_push, if_pos rfl]; rfl⟩⟩
    · simp only [if_neg hz] at ex ⊢
      simp (maxDischargeDepth := 8) -implicitDefEqProofs only [sr1, kA, Q.ev, evQ, evP, evalO, resultsA, tupA, AV.rfL, callV, exists_eq', List.length_set, ne_eq, Nat.reduceEqDiff, Nat.reduceLT, reduceCtorEq, Nat.reduceAdd, List.getElem?_cons_succ, List.getElem?_cons_zero, Option.map, if_true, if_false, beq_self_eq_true, List.length_cons, List.length_nil, List.cons_append, List.nil_append, List.append_nil, ite_self, Int.reduceBNe, Int.reduceBEq, Int.reduceLT, Int.reduceLE, heapFree, hid2, List.flatMap_nil, List.flatMap_cons, List.filter_nil, List.filter_cons, List.contains_cons, List.contains_nil, c19, o19_0, g19_0, o19_1, g19_1, o19_2, g19_2, o19_3, g19_3, a0, he]
      refine ⟨_, _, rfl, ex, .inr ⟨H.next + 1, by rw [Nat.zero_add], by omega, by simp [Heap.kill, Heap.setO, Heap.push], ?_⟩⟩
      rw [Heap.get_push, if_pos (by simp)]
end Go.Proofs.Ytejmfbeiejlgkaa.obj
/-! The functions below the Object laws, P14: the program's copy of an object. Conditions: in each statement. -/
namespace Go.Proofs.Ytejmfbeiejlgkaa.obj
open Go Go.Ab
set_option maxRecDepth 100000
set_option linter.unusedSimpArgs false
set_option linter.unusedVariables false
def zipV (l : List Sec) (bs : List AV) : List AV := (l.zip bs).map fun p => secV p.1 p.2
theorem zipV_len {l : List Sec} {bs : List AV} (h : bs.length = l.length) : (zipV l bs).length = l.length := by simp [zipV, h]
theorem zipV_cells {l : List Sec} {bs : List AV} : ∀ x ∈ zipV l bs, x.cells.length = 3 := by
  intro x hx
  obtain ⟨p, _, rfl⟩ := List.mem_map.1 hx
  rfl
theorem zipV_at {l : List Sec} {bs : List AV} {i : Nat} (h : bs.length = l.length) (hi : i < l.length) : (zipV l bs)[i]? = some (secV l[i] (bs[i]'(by omega))) := by
  unfold zipV
  rw [List.getElem?_map, List.getElem?_eq_getElem (by simp; omega)]
  simp
theorem zipV_set : ∀ (l : List Sec) (bs : List AV) (i : Nat) (u : AV), bs.length = l.length → i < l.length → (zipV l (bs.set i u)).flatMap AV.cells = ((zipV l bs).flatMap AV.cells).set (i * 3 + 2) u
  | [], _, _, _, _, h => by simp at h
  | s :: l, [], _, _, h, _ => by simp at h
  | s :: l, b :: bs, 0, u, h, _ => by
    simp [zipV, secV, AV.cells]
  | s :: l, b :: bs, i + 1, u, h, hi => by
    have ih := zipV_set l bs i u (by simpa using h) (by simpa using hi)
    simp only [zipV] at ih ⊢
    simp only [List.set_cons_succ, List.zip_cons_cons, List.map_cons, List.flatMap_cons, ih]
    have e : (i + 1) * 3 + 2 = (i * 3 + 2) + 3 := by omega
    rw [e]
    simp only [secV, AV.cells, List.cons_append, List.nil_append]
    rfl
theorem zipV_get {l : List Sec} {bs : List AV} {i : Nat} (h : bs.length = l.length) (hi : i < l.length) : ((zipV l bs).flatMap AV.cells)[i * 3 + 2]? = some (bs[i]'(by omega)) := by
  obtain ⟨h1, h2⟩ := flat_at (zipV l bs) i _ zipV_cells (zipV_at h hi)
  have := congrArg (fun x : List AV => x[2]?) h1
  simp only [List.getElem?_take, List.getElem?_drop] at this
  rw [if_pos (by omega)] at this
  rw [this]; rfl
/-- an object that came in -/
structure InO (o : Obj) (vs vy vr : AV) (bs : List AV) : Prop where
  len : bs.length = o.secs.length
  s : ∀ H, Sv H 3 vs (zipV o.secs bs)
  b : ∀ i (h : i < o.secs.length), (bs[i]'(by omega)).rf = true ∧ ∀ H, SvB H (bs[i]'(by omega)) o.secs[i].bytes
  y : ∀ H, SvY H vy o.syms
  r : ∀ H, SvR H vr o.rels
  rs : vs.rf = true
  ry : vy.rf = true
  rr : vr.rf = true
theorem InO.rd {o : Obj} {vs vy vr : AV} {bs : List AV} (h : InO o vs vy vr bs) (H : Heap) : RdO H (.agg [.str o.machine, vs, vy, vr]) o := by
  refine ⟨vs, vy, vr, rfl, ⟨bs, h.len, h.s H, fun i s b hs hb => ?_⟩, h.y H, h.r H⟩
  obtain ⟨h1, rfl⟩ := List.getElem?_eq_some_iff.1 hs
  obtain ⟨h2, rfl⟩ := List.getElem?_eq_some_iff.1 hb
  exact (h.b i h1).2 H
def bytV (l : List UInt8) : List AV := l.map fun n => .int .u8 (n.toNat : Int)
theorem bytV_cells {l : List UInt8} : ∀ x ∈ bytV l, x.cells.length = 1 := by
  intro x hx; obtain ⟨p, _, rfl⟩ := List.mem_map.1 hx; rfl
/-- an object in own memory that was made since H0 -/
structure OwnO (H0 H : Heap) (o : Obj) (vs vy vr : AV) (us : List AV) : Prop where
  len : us.length = o.secs.length
  s : Own H0 H 3 39 vs (zipV o.secs us)
  b : ∀ i (h : i < o.secs.length), Own H0 H 1 5 (us[i]'(by omega)) (bytV o.secs[i].bytes)
  y : Own H0 H 3 41 vy (o.syms.map symV)
  r : Own H0 H 8 43 vr (o.rels.map relV)
theorem OwnO.rd {H0 H : Heap} {o : Obj} {vs vy vr : AV} {us : List AV} (h : OwnO H0 H o vs vy vr us) : RdO H (.agg [.str o.machine, vs, vy, vr]) o := by
  refine ⟨vs, vy, vr, rfl, ⟨us, h.len, h.s.sv zipV_cells, fun i s b hs hb => ?_⟩, h.y.sv (fun x hx => by obtain ⟨p, _, rfl⟩ := List.mem_map.1 hx; rfl), h.r.sv (fun x hx => by obtain ⟨p, _, rfl⟩ := List.mem_map.1 hx; rfl)⟩
  obtain ⟨h1, rfl⟩ := List.getElem?_eq_some_iff.1 hs
  obtain ⟨h2, rfl⟩ := List.getElem?_eq_some_iff.1 hb
  exact (h.b i h1).sv bytV_cells
theorem Own.set {H0 H : Heap} {sz c : Nat} {e : TypeId} {v : AV} {vs : List AV} {x : Blk} (h : Own H0 H sz e v vs) (hc : c < H0.next) : Own H0 (H.set c x) sz e v vs := by
  rcases h with h | ⟨b, h1, h2, h3, h4⟩
  · exact .inl h
  · exact .inr ⟨b, h1, h2, h3, by rw [Heap.get_set, if_neg (by omega)]; exact h4⟩
theorem Own.old {H0 H1 H : Heap} {sz : Nat} {e : TypeId} {v : AV} {vs : List AV} (h : Own H1 H sz e v vs) (k : H0.next ≤ H1.next) : Own H0 H sz e v vs := by
  rcases h with h | ⟨b, h1, h2, h3, h4⟩
  · exact .inl h
  · exact .inr ⟨b, h1, by omega, h3, h4⟩
theorem Own.leaf {H0 H : Heap} {sz : Nat} {e : TypeId} {v : AV} {vs : List AV} (h : Own H0 H sz e v vs) : v.cells = [v] ∧ leafA v = true := by
  rcases h with ⟨rfl, _⟩ | ⟨b, rfl, _⟩ <;> exact ⟨rfl, rfl⟩
theorem w8_1_at (e : List AV) (H : Heap) (j : Nat) : w8_1 e H j = [] := rfl
theorem w8_5_at (e : List AV) (H : Heap) (j : Nat) : w8_5 e H j = [] := rfl
theorem ld26 {H : Heap} {v : AV} : loadA Try.prog H 26 v = ldA H (some 4) v := aggT_ok (by kernel_rfl) v
/-- the copy under way: sections below i have their own bytes -/
structure TwI (o : Obj) (bs : List AV) (Hc K1 K2 K3 : Heap) (b1 b2 : Nat) (vs' vy' vr' : AV) (i : Nat) (H' : Heap) (us : List AV) : Prop where
  ext : Ext Hc H'
  ext3 : K3.next ≤ H'.next
  g1 : H'.get b1 = some (.cells 26 [.str o.machine, vs', vy', vr'])
  g2 : H'.get b2 = some (.cells 26 [.str ByteArray.empty, .rsl none 0 0 [], .rsl none 0 0 [], .rsl none 0 0 []])
  len : us.length = o.secs.length
  s : Own K1 H' 3 39 vs' (zipV o.secs us)
  done : ∀ j (h : j < o.secs.length), j < i → Own K3 H' 1 5 (us[j]'(by omega)) (bytV o.secs[j].bytes)
  rest : ∀ j (h : j < us.length), i ≤ j → bs[j]? = some us[j]
  y : Own K2 H' 3 41 vy' (o.syms.map symV)
  r : Own K2 H' 8 43 vr' (o.rels.map relV)
set_option maxHeartbeats 8000000 in
theorem twin_l0 (o : Obj) (vs vy vr : AV) (bs : List AV) (hI : InO o vs vy vr bs) (hl : o.secs.length < 2 ^ 62) (hby : ∀ s ∈ o.secs, s.bytes.length ≤ 1000000) (Hc K1 K2 K3 : Heap) (b1 b2 lo : Nat) (vs' vy' vr' : AV) (hlo : lo ≤ Hc.next)
    (k0 : Hc.next ≤ K1.next) (hb1 : b1 < K1.next) (hb2 : b2 < K1.next) (hq : ∀ b n s, vs' = .sl b 0 n s → b < K2.next) (k2 : K2.next ≤ K3.next) : ∀ i e H', i ≤ o.secs.length →
    ((∃ us, TwI o bs Hc K1 K2 K3 b1 b2 vs' vy' vr' i H' us) ∧ e.length = 36 ∧ gd e 1 = .ptr b1 0 ∧ gd e 2 = .ptr b2 0 ∧ gd e 18 = .int .i64 o.secs.length ∧ gd e 19 = .int .i64 i) →
    Rn (om Try.prog ⟨8, none⟩ lo c8_l0 ⟨e, [], H'⟩) fun x e' H' => x = .exit 0 ∧ (∃ us, TwI o bs Hc K1 K2 K3 b1 b2 vs' vy' vr' o.secs.length H' us) ∧ e'.length = 36 ∧ gd e' 1 = .ptr b1 0 ∧ gd e' 2 = .ptr b2 0 := by
  refine loop_rn o.secs.length _ _ ?_
  rintro i e H' hi ⟨⟨us, hT⟩, he, a1, a2, a18, a19⟩
  have g1 := hT.g1
  by_cases h : i < o.secs.length
  · have hdd : decide ((i : Int) < o.secs.length) = true := decide_eq_true (by omega)
    have w1 : IntKind.i64.wrap ((i : Int) + 1) = ((i + 1 : Nat) : Int) := by rw [wi64 (by omega) (by omega)]; push_cast; rfl
    have hlen := hT.len
    rcases hT.s with ⟨_, hz⟩ | ⟨bq, rfl, q1, q2, q3⟩
    · have := zipV_len hT.len; rw [hz] at this; simp at this; omega
    have hzl := zipV_len hT.len
    rw [hzl] at hq
    have q4 : bq < K2.next := hq bq _ 3 rfl
    have ix : ixA 3 (.sl bq 0 (zipV o.secs us).length 3) (.int .i64 i) = some (.ptr bq (i * 3)) := by simp [ixA, hzl, h]
    have hri := hT.rest i (by omega) (Nat.le_refl _)
    have hbi : bs[i]? = some (bs[i]'(by have := hI.len; omega)) := List.getElem?_eq_getElem (by have := hI.len; omega)
    have hui : (us[i]'(by omega)) = bs[i]'(by have := hI.len; omega) := by rw [hbi] at hri; exact (Option.some.inj hri).symm
    have hgc := zipV_get hT.len h
    obtain ⟨rbi, sbi⟩ := hI.b i h
    rw [← hui] at rbi sbi
    have hbl := hby _ (List.getElem_mem h)
    have hlo' : lo ≤ H'.next := Nat.le_trans hlo hT.ext.1
    obtain ⟨u', H2, cl, x2, o2⟩ := clone19_run (us[i]'(by omega)) (bytV o.secs[i].bytes) lo H' (sbi H') (fun x hx => by obtain ⟨p, _, rfl⟩ := List.mem_map.1 hx; rfl) (by simp only [bytV, List.length_map]; exact hbl) hlo'
    have g12 : H2.get b1 = some (.cells 26 [.str o.machine, .sl bq 0 (zipV o.secs us).length 3, vy', vr']) := by rw [x2.2.1 _ (by have := hT.ext.1; have := hT.ext3; omega)]; exact g1
    have q32 : H2.get bq = some (.cells 39 ((zipV o.secs us).flatMap AV.cells)) := by rw [x2.2.1 _ q2]; exact q3
    have s1 := st_cell (lo := lo) o2.leaf.1 o2.leaf.2 H2 bq (i * 3 + 2) 39 _ q32 (by rw [flat_len _ zipV_cells, hzl]; omega) (by omega)
    rw [← zipV_set o.secs us i u' hT.len h] at s1
    simp (maxDischargeDepth := 8) -implicitDefEqProofs only [sr1, kA, Q.ev, evQ, evP, evalO, resultsA, tupA, AV.rfL, callV, exists_eq', List.length_set, ne_eq, Nat.reduceEqDiff, Nat.reduceLT, reduceCtorEq, Nat.reduceAdd, List.getElem?_cons_succ, List.getElem?_cons_zero, Option.map, if_true, if_false, beq_self_eq_true, List.length_cons, List.length_nil, List.cons_append, List.nil_append, List.append_nil, ite_self, Int.reduceBNe, Int.reduceBEq, Int.reduceLT, Int.reduceLE, heapFree, hid2, List.flatMap_nil, List.flatMap_cons, List.filter_nil, List.filter_cons, List.contains_cons, List.contains_nil, c8, o8_0, g8_0, o8_1a, o8_1b, u8_1, g8_1, o8_2, g8_2, o8_3, g8_3, o8_4, g8_4, o8_5a, o8_5b, u8_5, g8_5, o8_6, g8_6, o8_7, g8_7, he, Heap.get_push, Heap.get_set, w8_1_at, w8_5_at, c8_b0, a1, a2, a18, a19, g1, hdd, ix, q3, hgc, cl, x2, g12, s1, w1, h]
    refine ⟨us.set i u', ?_⟩
    have hne1 : b1 ≠ bq := by omega
    have hne2 : b2 ≠ bq := by omega
    have hb1' : b1 < H'.next := by have := hT.ext.1; have := hT.ext3; omega
    have hb2' : b2 < H'.next := by have := hT.ext.1; have := hT.ext3; omega
    refine { ext := (hT.ext.trans x2).set (by omega) _ (by have := x2.1; omega), ext3 := ?_, g1 := ?_, g2 := ?_, len := by simp [hT.len], s := ?_, done := ?_, rest := ?_, y := ?_, r := ?_ }
    · have := hT.ext3; have := x2.1; simp; omega
    · rw [Heap.get_set, if_neg hne1]; exact g12
    · rw [Heap.get_set, if_neg hne2, x2.2.1 _ hb2']; exact hT.g2
    · have hzl2 : (zipV o.secs (us.set i u')).length = o.secs.length := zipV_len (by simp [hT.len])
      refine .inr ⟨bq, by rw [hzl, hzl2], q1, by have := x2.1; simp; omega, by rw [Heap.get_set, if_pos rfl]⟩
    · intro j hj hji
      by_cases e1 : j = i
      · subst e1
        simp only [List.getElem_set_self]
        exact (o2.old hT.ext3).set (by omega)
      · simp only [List.getElem_set_ne (fun k => e1 k.symm)]
        exact ((hT.done j hj (by omega)).ext x2).set (by omega)
    · intro j hj hij
      rw [List.getElem_set_ne (by omega)]
      exact hT.rest j (by simpa using hj) (by omega)
    · exact (hT.y.ext x2).set (by omega)
    · exact (hT.r.ext x2).set (by omega)
  · obtain rfl : i = o.secs.length := by omega
    have hdd : decide ((o.secs.length : Int) < o.secs.length) = false := decide_eq_false (by omega)
    simp (maxDischargeDepth := 8) -implicitDefEqProofs only [sr1, kA, Q.ev, evQ, evP, evalO, resultsA, tupA, AV.rfL, callV, exists_eq', List.length_set, ne_eq, Nat.reduceEqDiff, Nat.reduceLT, reduceCtorEq, Nat.reduceAdd, List.getElem?_cons_succ, List.getElem?_cons_zero, Option.map, if_true, if_false, beq_self_eq_true, List.length_cons, List.length_nil, List.cons_append, List.nil_append, List.append_nil, ite_self, Int.reduceBNe, Int.reduceBEq, Int.reduceLT, Int.reduceLE, heapFree, hid2, List.flatMap_nil, List.flatMap_cons, List.filter_nil, List.filter_cons, List.contains_cons, List.contains_nil, c8, o8_0, g8_0, o8_1a, o8_1b, u8_1, g8_1, o8_2, g8_2, o8_3, g8_3, o8_4, g8_4, o8_5a, o8_5b, u8_5, g8_5, o8_6, g8_6, o8_7, g8_7, he, Heap.get_push, Heap.get_set, w8_1_at, w8_5_at, c8_b0, a1, a2, a18, a19, hdd]
    exact ⟨us, hT⟩
end Go.Proofs.Ytejmfbeiejlgkaa.obj
/-! The functions below the Object laws, P15: the program's copy of an object, whole. Conditions: in each statement. -/
namespace Go.Proofs.Ytejmfbeiejlgkaa.obj
open Go Go.Ab
set_option maxRecDepth 100000
set_option linter.unusedSimpArgs false
set_option linter.unusedVariables false
theorem rf_sv {H : Heap} {sz : Nat} {v : AV} {l : List AV} (h : Sv H sz v l) (hr : v.rf = true) : ∃ a cap s, v = .rsl a cap s l := by
  obtain ⟨_, ⟨a, cap, s, rfl, _⟩ | ⟨b, i, t, c, rfl, _⟩⟩ := h
  · exact ⟨a, cap, s, rfl⟩
  · simp [AV.rf] at hr
theorem killF1 {p : Nat → Bool} {a n b : Nat} {H : Heap} (h : b < a) : (killL H (List.filter p (List.range' a n))).get b = H.get b := by
  rw [killL_get, if_neg]
  intro hm
  have := (List.mem_range'_1.1 (List.mem_filter.1 hm).1).1
  omega
theorem killF2 {p : Nat → Bool} {a n c m b : Nat} {H : Heap} (h : b < a) (h' : b < c) : (killL H (List.filter p (List.range' a n ++ List.range' c m))).get b = H.get b := by
  rw [killL_get, if_neg]
  intro hm
  rcases List.mem_append.1 (List.mem_filter.1 hm).1 with hm | hm
  · have := (List.mem_range'_1.1 hm).1; omega
  · have := (List.mem_range'_1.1 hm).1; omega
theorem conF1 {p : Nat → Bool} {a n b : Nat} (h : b < a) : (List.filter p (List.range' a n)).contains b = false := by
  cases hc : (List.filter p (List.range' a n)).contains b with
  | false => rfl
  | true => have := (List.mem_range'_1.1 (List.mem_filter.1 (List.contains_iff_mem.1 hc)).1).1; omega
theorem conF2 {p : Nat → Bool} {a n c m b : Nat} (h : b < a) (h' : b < c) : (List.filter p (List.range' a n ++ List.range' c m)).contains b = false := by
  cases hc : (List.filter p (List.range' a n ++ List.range' c m)).contains b with
  | false => rfl
  | true =>
    rcases List.mem_append.1 (List.mem_filter.1 (List.contains_iff_mem.1 hc)).1 with hm | hm
    · have := (List.mem_range'_1.1 hm).1; omega
    · have := (List.mem_range'_1.1 hm).1; omega
set_option maxHeartbeats 8000000 in
theorem twin_run (o : Obj) (vs vy vr : AV) (bs : List AV) (hI : InO o vs vy vr bs) (hl : o.secs.length ≤ 1000000) (hly : o.syms.length ≤ 1000000) (hlr : o.rels.length ≤ 1000000) (hby : ∀ s ∈ o.secs, s.bytes.length ≤ 1000000) (lo : Nat) (H : Heap) (hlo : lo ≤ H.next) :
    ∃ vs' vy' vr' us H', callA Try.prog (om Try.prog) lo 8 [.agg [.str o.machine, vs, vy, vr]] H = some (.agg [.str o.machine, vs', vy', vr'], H') ∧ Ext H H' ∧ OwnO H H' o vs' vy' vr' us := by
  obtain ⟨ad, cs, ss, rfl⟩ := rf_sv (hI.s H) hI.rs
  obtain ⟨ay, cy, sy, rfl⟩ := rf_sv (hI.y H) hI.ry
  obtain ⟨ar, cr, sr, rfl⟩ := rf_sv (hI.r H) hI.rr
  obtain ⟨e, he, a0, hc⟩ := c8_in (.agg [.str o.machine, .rsl ad cs ss (zipV o.secs bs), .rsl ay cy sy (o.syms.map symV), .rsl ar cr sr (o.rels.map relV)]) lo H
  rw [hc]
  generalize AV.rfL [_] = c
  generalize hlq : (if c = true then H.next else lo) = lo'
  have hlo' : lo' ≤ H.next := by rw [← hlq]; split <;> omega
  generalize hHp : (H.push (.cells 26 [.str o.machine, .rsl ad cs ss (zipV o.secs bs), .rsl ay cy sy (o.syms.map symV), .rsl ar cr sr (o.rels.map relV)])).push (.cells 26 [.str ByteArray.empty, .rsl none 0 0 [], .rsl none 0 0 [], .rsl none 0 0 []]) = Hp
  have np : Hp.next = H.next + 1 + 1 := by rw [← hHp]; rfl
  have gp1 : Hp.get H.next = some (.cells 26 [.str o.machine, .rsl ad cs ss (zipV o.secs bs), .rsl ay cy sy (o.syms.map symV), .rsl ar cr sr (o.rels.map relV)]) := by rw [← hHp]; simp [Heap.get_push]
  have gp2 : Hp.get (H.next + 1) = some (.cells 26 [.str ByteArray.empty, .rsl none 0 0 [], .rsl none 0 0 [], .rsl none 0 0 []]) := by rw [← hHp]; simp [Heap.get_push]
  have xp : Ext H Hp := by rw [← hHp]; exact ((Ext.refl H).push _).push _
  have lfz : ∀ x ∈ zipV o.secs bs, leafs x.cells = true := by
    intro x hx
    obtain ⟨p, hp, rfl⟩ := List.mem_map.1 hx
    obtain ⟨i, hi, rfl⟩ := List.mem_iff_getElem.1 hp
    simp only [List.length_zip] at hi
    obtain ⟨h1, h2⟩ := hI.b i (by omega)
    obtain ⟨a, b, c, h3⟩ := rf_sv (h2 H) h1
    simp only [List.getElem_zip, secV, AV.cells, h3]
    rfl
  have lfy : ∀ x ∈ o.syms.map symV, leafs x.cells = true := by
    intro x hx; obtain ⟨p, _, rfl⟩ := List.mem_map.1 hx; rfl
  have lfr : ∀ x ∈ o.rels.map relV, leafs x.cells = true := by
    intro x hx; obtain ⟨p, _, rfl⟩ := List.mem_map.1 hx; rfl
  obtain ⟨v1, K1, c1, x1, o1⟩ := clone16_run (.rsl ad cs ss (zipV o.secs bs)) (zipV o.secs bs) lo' Hp (hI.s Hp) lfz (by rw [zipV_len hI.len]; omega) (by omega)
  obtain ⟨v2, K2, c2, x2, o2⟩ := clone17_run (.rsl ay cy sy (o.syms.map symV)) (o.syms.map symV) lo' K1 (hI.y K1) lfy (by simpa using hly) (by have := x1.1; omega)
  obtain ⟨v3, K3, c3, x3, o3⟩ := clone18_run (.rsl ar cr sr (o.rels.map relV)) (o.rels.map relV) lo' K2 (hI.r K2) lfr (by simpa using hlr) (by have := x1.1; have := x2.1; omega)
  have n1 := x1.1
  have n2 := x2.1
  have n3 := x3.1
  have lt1 : H.next < Hp.next := by omega
  have lt2 : H.next < K1.next := by omega
  have lt3 : H.next < K2.next := by omega
  have g1 : K1.get H.next = _ := (x1.2.1 _ (by omega)).trans gp1
  have g2 : K2.get H.next = _ := (x2.2.1 _ (by omega)).trans g1
  have g3 : K3.get H.next = _ := (x3.2.1 _ (by omega)).trans g2
  have lf : leafs [AV.str o.machine, .rsl ad cs ss (zipV o.secs bs), .rsl ay cy sy (o.syms.map symV), .rsl ar cr sr (o.rels.map relV)] = true := rfl
  clear hc
  have s1 := st_cell (lo := lo') o1.leaf.1 o1.leaf.2 K3 H.next 1 26 _ g3 (by simp) hlo'
  simp only [List.set_cons_succ, List.set_cons_zero] at s1
  have g4 : (K3.set H.next (.cells 26 [.str o.machine, v1, .rsl ay cy sy (o.syms.map symV), .rsl ar cr sr (o.rels.map relV)])).get H.next = some (.cells 26 [.str o.machine, v1, .rsl ay cy sy (o.syms.map symV), .rsl ar cr sr (o.rels.map relV)]) := by rw [Heap.get_set, if_pos rfl]
  have s2 := st_cell (lo := lo') o2.leaf.1 o2.leaf.2 _ H.next 2 26 _ g4 (by simp) hlo'
  simp only [List.set_cons_succ, List.set_cons_zero] at s2
  have g5 : ((K3.set H.next (.cells 26 [.str o.machine, v1, .rsl ay cy sy (o.syms.map symV), .rsl ar cr sr (o.rels.map relV)])).set H.next (.cells 26 [.str o.machine, v1, v2, .rsl ar cr sr (o.rels.map relV)])).get H.next = some (.cells 26 [.str o.machine, v1, v2, .rsl ar cr sr (o.rels.map relV)]) := by rw [Heap.get_set, if_pos rfl]
  have s3 := st_cell (lo := lo') o3.leaf.1 o3.leaf.2 _ H.next 3 26 _ g5 (by simp) hlo'
  simp only [List.set_cons_succ, List.set_cons_zero] at s3
  have ln : lenlA v1 = some (.int .i64 o.secs.length) := by have := (o1.sv zipV_cells).lenl; rwa [zipV_len hI.len] at this
  simp (maxDischargeDepth := 8) -implicitDefEqProofs only [sr1, kA, Q.ev, evQ, evP, evalO, resultsA, tupA, AV.rfL, callV, exists_eq', List.length_set, ne_eq, Nat.reduceEqDiff, Nat.reduceLT, reduceCtorEq, Nat.reduceAdd, List.getElem?_cons_succ, List.getElem?_cons_zero, Option.map, if_true, if_false, beq_self_eq_true, List.length_cons, List.length_nil, List.cons_append, List.nil_append, List.append_nil, ite_self, Int.reduceBNe, Int.reduceBEq, Int.reduceLT, Int.reduceLE, heapFree, hid2, List.flatMap_nil, List.flatMap_cons, List.filter_nil, List.filter_cons, List.contains_cons, List.contains_nil, c8, o8_0, g8_0, o8_1a, o8_1b, u8_1, g8_1, o8_2, g8_2, o8_3, g8_3, o8_4, g8_4, o8_5a, o8_5b, u8_5, g8_5, o8_6, g8_6, o8_7, g8_7, he, Heap.get_push, Heap.get_set, w8_1_at, w8_5_at, killF1, killF2, conF1, conF2, rf_all, Nat.reduceBEq, c8, a0, lf, hHp, gp1, gp2, c1, x1, g1, lt1, c2, x2, g2, lt2, c3, x3, s1, s2, s3, lt3, ln]
  generalize hK : ((K3.set H.next (.cells 26 [.str o.machine, v1, .rsl ay cy sy (o.syms.map symV), .rsl ar cr sr (o.rels.map relV)])).set H.next (.cells 26 [.str o.machine, v1, v2, .rsl ar cr sr (o.rels.map relV)])).set H.next (.cells 26 [.str o.machine, v1, v2, v3]) = K
  have x3' : Ext H K3 := (((xp.trans x1).trans x2).trans x3)
  have xk : Ext H K := by rw [← hK]; exact (((x3'.set (Nat.le_refl _) _ (by omega)).set (Nat.le_refl _) _ (by simp; omega)).set (Nat.le_refl _) _ (by simp; omega))
  have hI0 : TwI o bs H Hp K1 K3 H.next (H.next + 1) v1 v2 v3 0 K bs := by
    refine { ext := xk, ext3 := by rw [← hK]; simp, g1 := by rw [← hK, Heap.get_set, if_pos rfl], g2 := ?_, len := hI.len, s := ?_, done := fun j _ h => by omega, rest := fun j h _ => List.getElem?_eq_getElem h, y := ?_, r := ?_ }
    · rw [← hK]; simp only [Heap.get_set, if_neg (show H.next + 1 ≠ H.next by omega)]
      exact (x3.2.1 _ (by omega)).trans ((x2.2.1 _ (by omega)).trans ((x1.2.1 _ (by omega)).trans gp2))
    · rw [← hK]; exact ((((o1.ext x2).ext x3).set (by omega)).set (by omega)).set (by omega)
    · rw [← hK]; exact (((o2.ext x3).set (by omega)).set (by omega)).set (by omega)
    · rw [← hK]; exact (((o3.old (by omega)).set (by omega)).set (by omega)).set (by omega)
  have hq : ∀ b n s, v1 = .sl b 0 n s → b < K1.next := by
    rintro b n s rfl
    rcases o1 with ⟨h, _⟩ | ⟨b', h, _, h3, _⟩
    · cases h
    · cases h; exact h3
  generalize hr : om Try.prog _ _ c8_l0 _ = r
  obtain ⟨x, e', H', rfl, rfl, ⟨us, hT⟩, he', a1, a2⟩ := rn_of hr (twin_l0 o _ _ _ bs hI (by omega) hby H Hp K1 K3 H.next (H.next + 1) lo' v1 v2 v3 hlo' (by omega) (by omega) (by omega) hq (by omega) 0 _ _ (Nat.zero_le _) ⟨⟨bs, hI0⟩, by simp only [gd_eq, gd_ne, ne_eq, not_false_eq_true, Nat.reduceEqDiff, Nat.reduceLT, List.length_set, reduceCtorEq, he], by simp only [gd_eq, gd_ne, ne_eq, not_false_eq_true, Nat.reduceEqDiff, Nat.reduceLT, List.length_set, reduceCtorEq, he], by simp only [gd_eq, gd_ne, ne_eq, not_false_eq_true, Nat.reduceEqDiff, Nat.reduceLT, List.length_set, reduceCtorEq, he], by simp only [gd_eq, gd_ne, ne_eq, not_false_eq_true, Nat.reduceEqDiff, Nat.reduceLT, List.length_set, reduceCtorEq, he], by simp only [gd_eq, gd_ne, ne_eq, not_false_eq_true, Nat.reduceEqDiff, Nat.reduceLT, List.length_set, reduceCtorEq, he]; rfl⟩)
  have g1 := hT.g1
  have g2 := hT.g2
  have lf2 : leafs [AV.str o.machine, v1, v2, v3] = true := by simp only [leafs, List.all_cons, List.all_nil, o1.leaf.2, o2.leaf.2, o3.leaf.2, show leafA (AV.str o.machine) = true from rfl, Bool.and_self]
  have cl2 : AV.cells (.agg [.str o.machine, v1, v2, v3]) = [.str o.machine, v1, v2, v3] := by simp [cells_agg, o1.leaf.1, o2.leaf.1, o3.leaf.1, AV.cells]
  have s4 := st_full (lo := lo') (n := 4) (v := .agg [.str o.machine, v1, v2, v3]) (by rw [cl2]; rfl) rfl (by rw [cl2]; exact lf2) H' (H.next + 1) g2 (by omega)
  rw [cl2] at s4
  simp (maxDischargeDepth := 8) -implicitDefEqProofs only [sr1, kA, Q.ev, evQ, evP, evalO, resultsA, tupA, AV.rfL, callV, exists_eq', List.length_set, ne_eq, Nat.reduceEqDiff, Nat.reduceLT, reduceCtorEq, Nat.reduceAdd, List.getElem?_cons_succ, List.getElem?_cons_zero, Option.map, if_true, if_false, beq_self_eq_true, List.length_cons, List.length_nil, List.cons_append, List.nil_append, List.append_nil, ite_self, Int.reduceBNe, Int.reduceBEq, Int.reduceLT, Int.reduceLE, heapFree, hid2, List.flatMap_nil, List.flatMap_cons, List.filter_nil, List.filter_cons, List.contains_cons, List.contains_nil, c8, o8_0, g8_0, o8_1a, o8_1b, u8_1, g8_1, o8_2, g8_2, o8_3, g8_3, o8_4, g8_4, o8_5a, o8_5b, u8_5, g8_5, o8_6, g8_6, o8_7, g8_7, he, Heap.get_push, Heap.get_set, w8_1_at, w8_5_at, killF1, killF2, conF1, conF2, rf_all, Nat.reduceBEq, a1, a2, he', g1, s4, List.drop_zero, List.take_succ_cons, List.take_zero, List.take_nil, ld26]
  have own : OwnO H (H'.set (H.next + 1) (.cells 26 [.str o.machine, v1, v2, v3])) o v1 v2 v3 us := by
    refine ⟨hT.len, (hT.s.set (by omega)).old (by omega), fun j h => ((hT.done j h h).set (by omega)).old (by omega), (hT.y.set (by omega)).old (by omega), (hT.r.set (by omega)).old (by omega)⟩
  split
  · rename_i hcc
    simp only [Bool.and_eq_true] at hcc
    obtain ⟨_, r1, r2, r3⟩ := hcc
    have z1 : o.secs = [] := by
      rcases own.s with ⟨_, hz⟩ | ⟨b, rfl, _⟩
      · have := zipV_len hT.len; rw [hz] at this; exact List.length_eq_zero_iff.1 this.symm
      · simp [AV.rf] at r1
    refine ⟨_, _, _, us, _, rfl, Ext.refl H, hT.len, ?_, fun j h => absurd h (by rw [z1]; simp), ?_, ?_⟩
    · rcases own.s with h | ⟨b, rfl, _⟩
      · exact .inl h
      · simp [AV.rf] at r1
    · rcases own.y with h | ⟨b, rfl, _⟩
      · exact .inl h
      · simp [AV.rf] at r2
    · rcases own.r with h | ⟨b, rfl, _⟩
      · exact .inl h
      · simp [AV.rf] at r3
  · exact ⟨_, _, _, us, _, rfl, hT.ext.set (by omega) _ (by have := hT.ext3; omega), own⟩
end Go.Proofs.Ytejmfbeiejlgkaa.obj
/-! The functions below the Object laws, P16: the reference's copy of an object. Conditions: in each statement. -/
namespace Go.Proofs.Ytejmfbeiejlgkaa.obj
open Go Go.Ab
set_option maxRecDepth 100000
set_option linter.unusedSimpArgs false
set_option linter.unusedVariables false
theorem app_new {lo sz : Nat} {T e : TypeId} {i : TypeInfo} {z x : AV} {vs : List AV} {H : Heap} (hu : Try.prog.underlying T = some (.slice e)) (hi : Try.prog.info? e = some i) (hz : zeroA Try.prog e = some z) (hsz : i.size = sz) (hz2 : z.cells.length = sz) (hpos : 0 < sz)
    (hce : Try.prog.cellsOf e = sz) (hx : Sv H sz x vs) (hlf : ∀ v ∈ vs, leafs v.cells = true) (hlo : lo ≤ H.next) (hfit : appendFits i 0 vs.length = true) :
    ∃ y X, appendA Try.prog lo (H.push (.cells e [])) (some T) (some T) (.sl H.next 0 0 sz) x = some (y, X) ∧ LOk [] [H.next] (H.push (.cells e [])) X y ∧ Ext H X ∧ Own H X sz e y vs ∧ X.next = H.next + 1 + (if vs = [] then 0 else 1) := by
  have ap := append_own (P := Try.prog) (lo := lo) (b := H.next) (m := 0) (sz := sz) (T := T) (e := e) (c := []) (H := H.push (.cells e [])) hu hi hz hsz hz2 hpos hce (hx.ext ((Ext.refl H).push _)) hlf (by rw [Heap.get_push, if_pos rfl]) (by simp) hlo hfit
  refine ⟨(appR e H.next 0 sz [] vs (H.push (.cells e []))).1, (appR e H.next 0 sz [] vs (H.push (.cells e []))).2, ap, lok_app (by simp), appR_ext ((Ext.refl H).push _) (Nat.le_refl _), ?_, ?_⟩
  · unfold appR
    by_cases hn : vs = []
    · subst hn
      rw [if_pos rfl]
      exact .inr ⟨H.next, rfl, Nat.le_refl _, by simp, by rw [Heap.get_push, if_pos rfl]; rfl⟩
    · rw [if_neg hn]
      refine .inr ⟨H.next + 1, by rw [Nat.zero_add]; rfl, by omega, by simp [Heap.kill, Heap.setO, Heap.push], ?_⟩
      rw [Heap.get_push, if_pos (by simp [Heap.kill, Heap.setO, Heap.push])]
      simp
  · unfold appR
    by_cases hn : vs = []
    · simp [hn]
    · simp [hn, Heap.kill, Heap.setO, Heap.push]
theorem w5_at (e : List AV) (H : Heap) (j : Nat) : w5_1 e H j = if j = 5 then [H.next] else if j = 9 then [H.next + (if slEmpty (cellOf e H 1 2) then 1 else 2)] else [] := rfl
theorem app_sec {lo : Nat} {v x s : AV} {l : List AV} {H K G : Heap} (ho : Own K H 3 39 v l) (hx : Sv H 3 x [s]) (hlf : leafs s.cells = true) (hlo : lo ≤ K.next) (hl : l.length ≤ 1000000) (hc : ∀ y ∈ l, y.cells.length = 3) (hg : Ext G H) (hgk : G.next ≤ K.next) (hk : K.next ≤ H.next) :
    ∃ y X, appendA Try.prog lo H (some 22) (some 22) v x = some (y, X) ∧ Own K X 3 39 y (l ++ [s]) ∧ Ext G X ∧ (∀ b < K.next, X.get b = H.get b) ∧ (∀ u w, Own K H 1 5 u w → Own K X 1 5 u w) ∧ H.next ≤ X.next := by
  obtain ⟨i, hi, hi2, hi3⟩ := info_of in39
  have hlf' : ∀ v ∈ [s], leafs v.cells = true := by intro v hv; rw [List.mem_singleton.1 hv]; exact hlf
  rcases ho with ⟨rfl, rfl⟩ | ⟨b, rfl, h1, h2, h3⟩
  · refine ⟨_, _, append_nil (e := 39) Try.underlying22 hi ze39 hi2 rfl (by decide) ce39 hx hlf' (by simp) (by simp only [appendFits, hi3, Bool.and_eq_true, decide_eq_true_eq, List.length_cons, List.length_nil]; omega), ?_, hg.push _, fun b hb => by rw [Heap.get_push, if_neg (by omega)], fun u w h => ?_, by simp⟩
    · exact .inr ⟨H.next, rfl, hk, by simp, by rw [Heap.get_push, if_pos rfl]; rfl⟩
    · exact h.ext ((Ext.refl H).push _)
  · have ap := append_own (P := Try.prog) (lo := lo) (b := b) (m := l.length) (sz := 3) (T := 22) (e := 39) (H := H) Try.underlying22 hi ze39 hi2 rfl (by decide) ce39 hx hlf' h3 (flat_len l hc) (by omega) (by simp only [appendFits, hi3, Bool.and_eq_true, decide_eq_true_eq, List.length_cons, List.length_nil]; omega)
    have ar : appR 39 b l.length 3 (l.flatMap AV.cells) [s] H = (.sl H.next 0 (l.length + 1) 3, (H.kill b).push (.cells 39 (l.flatMap AV.cells ++ [s].flatMap AV.cells))) := by
      unfold appR
      rw [if_neg (by simp)]
      rfl
    rw [ar] at ap
    have hn : (H.kill b).next = H.next := rfl
    refine ⟨_, _, ap, .inr ⟨H.next, by simp, hk, by rw [Heap.next_push, hn]; omega, ?_⟩, (hg.kill (by omega)).push _, fun c hc => ?_, fun u w h => ?_, by rw [Heap.next_push, hn]; omega⟩
    · rw [Heap.get_push, if_pos (by rw [hn]), List.flatMap_append]
    · rw [Heap.get_push, if_neg (by rw [hn]; omega), Heap.get_kill, if_neg (by omega)]
    · rcases h with h | ⟨c, k1, k2, k3, k4⟩
      · exact .inl h
      · have hne : c ≠ b := by
          rintro rfl
          rw [h3] at k4
          cases k4
        exact .inr ⟨c, k1, k2, by rw [Heap.next_push, hn]; omega, by rw [Heap.get_push, if_neg (by rw [hn]; omega), Heap.get_kill, if_neg hne]; exact k4⟩
/-- the copy under way: i sections are there -/
structure T5 (o : Obj) (bs : List AV) (G K : Heap) (b3 : Nat) (y1 y2 : AV) (i : Nat) (H' : Heap) (v : AV) (us : List AV) : Prop where
  ext : Ext G H'
  nxt : K.next ≤ H'.next
  g3 : H'.get b3 = some (.cells 26 [.str o.machine, v, y1, y2])
  len : us.length = i
  s : Own K H' 3 39 v (zipV (o.secs.take i) us)
  done : ∀ j (h : j < us.length) (h' : j < o.secs.length), Own K H' 1 5 us[j] (bytV o.secs[j].bytes)
theorem zipV_snoc {l : List Sec} {us : List AV} {u : AV} {i : Nat} (h : i < l.length) (hu : us.length = i) : zipV (l.take (i + 1)) (us ++ [u]) = zipV (l.take i) us ++ [secV l[i] u] := by
  unfold zipV
  rw [List.take_succ_eq_append_getElem h, List.zip_append (by simp; omega), List.map_append]
  rfl
theorem Own.setn {K H : Heap} {sz : Nat} {e : TypeId} {v : AV} {vs : List AV} {c : Nat} {x : Blk} (h : Own K H sz e v vs) (hc : ∀ b n s, v = .sl b 0 n s → b ≠ c) : Own K (H.set c x) sz e v vs := by
  rcases h with h | ⟨b, rfl, h2, h3, h4⟩
  · exact .inl h
  · exact .inr ⟨b, rfl, h2, h3, by rw [Heap.get_set, if_neg (hc b _ _ rfl)]; exact h4⟩
set_option maxHeartbeats 8000000 in
theorem twin5_l0 (o : Obj) (vs vy vr : AV) (bs : List AV) (hI : InO o vs vy vr bs) (hl : o.secs.length ≤ 1000000) (hby : ∀ s ∈ o.secs, s.bytes.length ≤ 1000000) (G K : Heap) (b1 b2 b3 lo : Nat) (y1 y2 : AV) (hlo : lo ≤ b1)
    (hgk : b3 < K.next) (hb1 : b1 < G.next) (hb3 : G.next ≤ b3) (g1 : G.get b1 = some (.cells 26 [.str o.machine, vs, vy, vr])) : ∀ i e H', i ≤ o.secs.length →
    ((∃ v us, T5 o bs G K b3 y1 y2 i H' v us) ∧ e.length = 41 ∧ gd e 1 = .ptr b1 0 ∧ gd e 2 = .ptr b2 0 ∧ gd e 3 = .ptr b3 0 ∧ gd e 4 = .int .i64 i) →
    Rn (om Try.prog ⟨5, none⟩ lo c5_l0 ⟨e, [], H'⟩) fun x e' H' => x = .exit 0 ∧ (∃ v us, T5 o bs G K b3 y1 y2 o.secs.length H' v us) ∧ e'.length = 41 ∧ gd e' 1 = .ptr b1 0 ∧ gd e' 2 = .ptr b2 0 ∧ gd e' 3 = .ptr b3 0 := by
  refine loop_rn o.secs.length _ _ ?_
  rintro i e H' hi ⟨⟨v, us, hT⟩, he, a1, a2, a3, a4⟩
  have gH : H'.get b1 = _ := (hT.ext.2.1 _ hb1).trans g1
  have ln := (hI.s H').lenl
  rw [zipV_len hI.len] at ln
  by_cases h : i < o.secs.length
  · have hdd : decide ((i : Int) < o.secs.length) = true := decide_eq_true (by omega)
    have w1 : IntKind.i64.wrap ((i : Int) + 1) = ((i + 1 : Nat) : Int) := by rw [wi64 (by omega) (by omega)]; push_cast; rfl
    obtain ⟨q, ix, pt⟩ := (hI.s H').ix (k := .i64) (zipV_at hI.len h)
    have ld := pt.lda (n := 3) rfl
    obtain ⟨rbi, sbi⟩ := hI.b i h
    have hbl := hby _ (List.getElem_mem h)
    obtain ⟨ua, uc, ux, hu⟩ := rf_sv (sbi H') rbi
    generalize bs[i]'(by have := hI.len; omega) = u0 at hu rbi sbi ld
    have lf0 : leafs [AV.str o.secs[i].name, .int .i64 o.secs[i].align, u0] = true := by rw [hu]; rfl
    have cl0 : AV.cells (.agg [.str o.secs[i].name, .int .i64 o.secs[i].align, u0]) = [.str o.secs[i].name, .int .i64 o.secs[i].align, u0] := rfl
    have nx := hT.nxt
    have nG := hT.ext.1
    have s1 := st_full (lo := lo) (n := 3) (t := 39) (z := [.str ByteArray.empty, .int .i64 0, .rsl none 0 0 []]) (v := .agg [.str o.secs[i].name, .int .i64 o.secs[i].align, u0]) rfl rfl (by rw [cl0]; exact lf0) (H'.push (.cells 39 [.str ByteArray.empty, .int .i64 0, .rsl none 0 0 []])) H'.next (by rw [Heap.get_push, if_pos rfl]) (by omega)
    rw [cl0] at s1
    generalize hE1 : (H'.push (.cells 39 [.str ByteArray.empty, .int .i64 0, .rsl none 0 0 []])).set H'.next (.cells 39 [.str o.secs[i].name, .int .i64 o.secs[i].align, u0]) = E1 at s1
    have nE1 : E1.next = H'.next + 1 := by rw [← hE1]; rfl
    have gE1 : E1.get H'.next = some (.cells 39 [.str o.secs[i].name, .int .i64 o.secs[i].align, u0]) := by rw [← hE1, Heap.get_set, if_pos rfl]
    have xE1 : Ext H' E1 := by rw [← hE1]; exact ((Ext.refl H').push _).set (Nat.le_refl _) _
    obtain ⟨i1, hi1, hi2, hi3⟩ := info_of in5
    obtain ⟨y, X, ap1, _, x1, o1, _⟩ := app_new (lo := lo) (x := u0) (vs := bytV o.secs[i].bytes) (H := E1) Try.underlying37 hi1 ze5 hi2 rfl (by decide) ce5 (sbi E1) (fun x hx => by obtain ⟨p, _, rfl⟩ := List.mem_map.1 hx; rfl) (by omega) (by simp only [appendFits, hi3, bytV, Bool.and_eq_true, decide_eq_true_eq, List.length_map]; omega)
    have b5 : bslA E1 5 1 [] 0 [] = some (.sl E1.next 0 0 1, E1.push (.cells 5 [])) := rfl
    have ne1 : H'.next ≠ E1.next := by omega
    have gX : X.get H'.next = _ := (x1.2.1 _ (by omega)).trans gE1
    have s2 := st_cell (lo := lo) o1.leaf.1 o1.leaf.2 X H'.next 2 39 _ gX (by simp) (by omega)
    simp only [List.set_cons_succ, List.set_cons_zero] at s2
    generalize hE2 : X.set H'.next (.cells 39 [.str o.secs[i].name, .int .i64 o.secs[i].align, y]) = E2 at s2
    have nE2 : E2.next = X.next := by rw [← hE2]; rfl
    have nX := x1.1
    have gE2 : E2.get H'.next = some (.cells 39 [.str o.secs[i].name, .int .i64 o.secs[i].align, y]) := by rw [← hE2, Heap.get_set, if_pos rfl]
    have xE2 : Ext H' E2 := by rw [← hE2]; exact (xE1.trans x1).set (Nat.le_refl _) _ (by omega)
    have oy : Own K E2 1 5 y (bytV o.secs[i].bytes) := by rw [← hE2]; exact (o1.set (by omega)).old (by omega)
    have gb3 : E2.get b3 = _ := (xE2.2.1 b3 (by omega)).trans hT.g3
    have lf3 : leafs [AV.str o.secs[i].name, .int .i64 o.secs[i].align, y] = true := by simp only [leafs, List.all_cons, List.all_nil, o1.leaf.2, Bool.and_true]; rfl
    have cl3 : AV.cells (.agg [.str o.secs[i].name, .int .i64 o.secs[i].align, y]) = [.str o.secs[i].name, .int .i64 o.secs[i].align, y] := rfl
    have b39 : bslA E2 39 3 [.str ByteArray.empty, .int .i64 0, .rsl none 0 0 []] 1 [(0, .agg [.str o.secs[i].name, .int .i64 o.secs[i].align, y])] = some (.sl E2.next 0 1 3, E2.push (.cells 39 [.str o.secs[i].name, .int .i64 o.secs[i].align, y])) := by
      simp only [bslA, List.all_cons, List.all_nil, cl3, lf3, Bool.and_self, if_true, fillA]
      rfl
    have xE3 : Ext H' (E2.push (.cells 39 [.str o.secs[i].name, .int .i64 o.secs[i].align, y])) := xE2.push _
    have sv3 : Sv (E2.push (.cells 39 [.str o.secs[i].name, .int .i64 o.secs[i].align, y])) 3 (.sl E2.next 0 1 3) [secV o.secs[i] y] := by
      refine ⟨fun x hx => by rw [List.mem_singleton.1 hx]; rfl, .inr ⟨E2.next, 0, 39, _, rfl, by simp, by rw [Heap.get_push, if_pos rfl], by simp, by simp [secV, AV.cells]⟩⟩
    obtain ⟨v', X3, ap3, o3, x3, f3, f5, n3⟩ := app_sec (lo := lo) (hT.s.ext xE3) sv3 lf3 (by omega) (by rw [zipV_len (by simp [hT.len]; omega)]; simp; omega) zipV_cells (hT.ext.trans xE3) (by omega) (by simp; omega)
    have ne3 : b3 ≠ E2.next := by omega
    have gb4 : X3.get b3 = some (.cells 26 [.str o.machine, v, y1, y2]) := by rw [f3 b3 hgk, Heap.get_push, if_neg ne3]; exact gb3
    have s4 := st_cell (lo := lo) o3.leaf.1 o3.leaf.2 X3 b3 1 26 _ gb4 (by simp) (by omega)
    simp only [List.set_cons_succ, List.set_cons_zero] at s4
    simp (maxDischargeDepth := 8) -implicitDefEqProofs only [sr1, kA, Q.ev, evQ, evP, evalO, resultsA, tupA, AV.rfL, callV, exists_eq', List.length_set, ne_eq, Nat.reduceEqDiff, Nat.reduceLT, reduceCtorEq, Nat.reduceAdd, List.getElem?_cons_succ, List.getElem?_cons_zero, Option.map, if_true, if_false, beq_self_eq_true, List.length_cons, List.length_nil, List.cons_append, List.nil_append, List.append_nil, ite_self, Int.reduceBNe, Int.reduceBEq, Int.reduceLT, Int.reduceLE, heapFree, hid2, List.flatMap_nil, List.flatMap_cons, List.filter_nil, List.filter_cons, List.contains_cons, List.contains_nil, c5, o5_0, g5_0, o5_1a, o5_1b, u5_1, g5_1, o5_2, g5_2, o5_3, g5_3, o5_5, g5_5, o5_6, g5_6, o5_7, g5_7, o5_4, g5_4, o5_8, g5_8, he, Heap.get_push, Heap.get_set, rf_all, c5_b0, a1, a2, a3, a4, gH, hdd, ix, ld, ln, w1, h, secV, s1, b5, gE1, ne1, opA, aop, Option.bind, evalL, List.getElem?_toArray, ap1, s2, gE2, gb3, b39, ap3, s4, List.drop_zero, List.take_succ_cons, List.take_zero, List.take_nil]
    refine ⟨v', us ++ [y], ?_⟩
    simp only [Heap.next_push] at n3
    refine { ext := x3.set hb3 _ (by omega), nxt := by simp; omega, g3 := by rw [Heap.get_set, if_pos rfl], len := by simp [hT.len], s := ?_, done := fun j hj hj' => ?_ }
    · rw [zipV_snoc h hT.len]; exact o3.set hgk
    · by_cases e1 : j < us.length
      · rw [List.getElem_append_left e1]
        exact (f5 _ _ ((hT.done j e1 hj').ext xE3)).set hgk
      · have : j = i := by have := hT.len; simp at hj; omega
        subst this
        rw [List.getElem_append_right (by omega)]
        simp only [hT.len, Nat.sub_self, List.getElem_cons_zero]
        exact (f5 _ _ (oy.ext ((Ext.refl E2).push _))).set hgk
  · obtain rfl : i = o.secs.length := by omega
    have hdd : decide ((o.secs.length : Int) < o.secs.length) = false := decide_eq_false (by omega)
    simp (maxDischargeDepth := 8) -implicitDefEqProofs only [sr1, kA, Q.ev, evQ, evP, evalO, resultsA, tupA, AV.rfL, callV, exists_eq', List.length_set, ne_eq, Nat.reduceEqDiff, Nat.reduceLT, reduceCtorEq, Nat.reduceAdd, List.getElem?_cons_succ, List.getElem?_cons_zero, Option.map, if_true, if_false, beq_self_eq_true, List.length_cons, List.length_nil, List.cons_append, List.nil_append, List.append_nil, ite_self, Int.reduceBNe, Int.reduceBEq, Int.reduceLT, Int.reduceLE, heapFree, hid2, List.flatMap_nil, List.flatMap_cons, List.filter_nil, List.filter_cons, List.contains_cons, List.contains_nil, c5, o5_0, g5_0, o5_1a, o5_1b, u5_1, g5_1, o5_2, g5_2, o5_3, g5_3, o5_5, g5_5, o5_6, g5_6, o5_7, g5_7, o5_4, g5_4, o5_8, g5_8, he, Heap.get_push, Heap.get_set, rf_all, c5_b0, a1, a2, a3, a4, gH, hdd, ln]
    exact ⟨v, us, hT⟩
end Go.Proofs.Ytejmfbeiejlgkaa.obj
/-! The functions below the Object laws, P17: the reference's copy of an object, whole. Conditions: in each statement. -/
namespace Go.Proofs.Ytejmfbeiejlgkaa.obj
open Go Go.Ab
set_option maxRecDepth 100000
set_option linter.unusedSimpArgs false
set_option linter.unusedVariables false
set_option maxHeartbeats 8000000 in
theorem twin5_run (o : Obj) (vs vy vr : AV) (bs : List AV) (hI : InO o vs vy vr bs) (hl : o.secs.length ≤ 1000000) (hly : o.syms.length ≤ 1000000) (hlr : o.rels.length ≤ 1000000) (hby : ∀ s ∈ o.secs, s.bytes.length ≤ 1000000) (lo : Nat) (H : Heap) (hlo : lo ≤ H.next) :
    ∃ vs' vy' vr' us H', callA Try.prog (om Try.prog) lo 5 [.agg [.str o.machine, vs, vy, vr]] H = some (.agg [.str o.machine, vs', vy', vr'], H') ∧ Ext H H' ∧ OwnO H H' o vs' vy' vr' us := by
  obtain ⟨ad, cs, ss, rfl⟩ := rf_sv (hI.s H) hI.rs
  obtain ⟨ay, cy, sy, rfl⟩ := rf_sv (hI.y H) hI.ry
  obtain ⟨ar, cr, sr, rfl⟩ := rf_sv (hI.r H) hI.rr
  obtain ⟨e, he, a0, hc⟩ := c5_in (.agg [.str o.machine, .rsl ad cs ss (zipV o.secs bs), .rsl ay cy sy (o.syms.map symV), .rsl ar cr sr (o.rels.map relV)]) lo H
  rw [hc]
  generalize AV.rfL [_] = c
  generalize hlq : (if c = true then H.next else lo) = lo'
  have hlo' : lo' ≤ H.next := by rw [← hlq]; split <;> omega
  clear hc
  generalize hHp : (H.push (.cells 26 [.str o.machine, .rsl ad cs ss (zipV o.secs bs), .rsl ay cy sy (o.syms.map symV), .rsl ar cr sr (o.rels.map relV)])).push (.cells 26 [.str ByteArray.empty, .rsl none 0 0 [], .rsl none 0 0 [], .rsl none 0 0 []]) = Hp
  have np : Hp.next = H.next + 1 + 1 := by rw [← hHp]; rfl
  have gp1 : Hp.get H.next = some (.cells 26 [.str o.machine, .rsl ad cs ss (zipV o.secs bs), .rsl ay cy sy (o.syms.map symV), .rsl ar cr sr (o.rels.map relV)]) := by rw [← hHp]; simp [Heap.get_push]
  have gp2 : Hp.get (H.next + 1) = some (.cells 26 [.str ByteArray.empty, .rsl none 0 0 [], .rsl none 0 0 [], .rsl none 0 0 []]) := by rw [← hHp]; simp [Heap.get_push]
  have xp : Ext H Hp := by rw [← hHp]; exact ((Ext.refl H).push _).push _
  have lfz : ∀ x ∈ zipV o.secs bs, leafs x.cells = true := by
    intro x hx
    obtain ⟨p, hp, rfl⟩ := List.mem_map.1 hx
    obtain ⟨i, hi, rfl⟩ := List.mem_iff_getElem.1 hp
    simp only [List.length_zip] at hi
    obtain ⟨h1, h2⟩ := hI.b i (by omega)
    obtain ⟨a, b, c, h3⟩ := rf_sv (h2 H) h1
    simp only [List.getElem_zip, secV, AV.cells, h3]
    rfl
  have lfy : ∀ x ∈ o.syms.map symV, leafs x.cells = true := by
    intro x hx; obtain ⟨p, _, rfl⟩ := List.mem_map.1 hx; rfl
  have lfr : ∀ x ∈ o.rels.map relV, leafs x.cells = true := by
    intro x hx; obtain ⟨p, _, rfl⟩ := List.mem_map.1 hx; rfl
  have lf : leafs [AV.str o.machine, .rsl ad cs ss (zipV o.secs bs), .rsl ay cy sy (o.syms.map symV), .rsl ar cr sr (o.rels.map relV)] = true := rfl
  obtain ⟨i1, hi1, hi2, hi3⟩ := info_of in41
  obtain ⟨j1, hj1, hj2, hj3⟩ := info_of in43
  obtain ⟨y1, X1, ap1, lk1, x1, o1, n1⟩ := app_new (lo := lo') (x := .rsl ay cy sy (o.syms.map symV)) (vs := o.syms.map symV) (H := Hp) Try.underlying23 hi1 ze41 hi2 rfl (by decide) ce41 (hI.y Hp) lfy (by omega) (by simp only [appendFits, hi3, Bool.and_eq_true, decide_eq_true_eq, List.length_map]; omega)
  obtain ⟨y2, X2, ap2, lk2, x2, o2, n2⟩ := app_new (lo := lo') (x := .rsl ar cr sr (o.rels.map relV)) (vs := o.rels.map relV) (H := X1) Try.underlying24 hj1 ze43 hj2 rfl (by decide) ce43 (hI.r X1) lfr (by have := x1.1; omega) (by simp only [appendFits, hj3, Bool.and_eq_true, decide_eq_true_eq, List.length_map]; omega)
  have b1 : bslA Hp 41 3 [] 0 [] = some (.sl Hp.next 0 0 3, Hp.push (.cells 41 [])) := rfl
  have b2 : bslA X1 43 8 [] 0 [] = some (.sl X1.next 0 0 8, X1.push (.cells 43 [])) := rfl
  generalize hW : w5_1 ((e.set 1 (AV.ptr H.next 0)).set 2 (AV.ptr (H.next + 1) 0)) Hp = W
  have hk : ∀ j, W j = if j = 5 then [Hp.next] else if j = 9 then [X1.next] else [] := by
    intro j
    rw [← hW, w5_at]
    have : cellOf ((e.set 1 (AV.ptr H.next 0)).set 2 (AV.ptr (H.next + 1) 0)) Hp 1 2 = .rsl ay cy sy (o.syms.map symV) := by
      simp only [cellOf, gd_eq, gd_ne, ne_eq, not_false_eq_true, Nat.reduceEqDiff, Nat.reduceLT, List.length_set, reduceCtorEq, he, gp1]; rfl
    rw [this, n1]
    cases o.syms <;> simp [slEmpty]
  have kk0 : W 0 = [] := hk 0
  have kk1 : W 1 = [] := hk 1
  have kk2 : W 2 = [] := hk 2
  have kk3 : W 3 = [] := hk 3
  have kk4 : W 4 = [] := hk 4
  have kk5 : W 5 = [Hp.next] := hk 5
  have kk6 : W 6 = [] := hk 6
  have kk7 : W 7 = [] := hk 7
  have kk8 : W 8 = [] := hk 8
  have kk9 : W 9 = [X1.next] := hk 9
  have kk10 : W 10 = [] := hk 10
  have kk11 : W 11 = [] := hk 11
  have lk1' : LOk [] (W 5) (Hp.push (.cells 41 [])) X1 y1 := by rw [kk5]; exact lk1
  have lk2' : LOk [] (W 9) (X1.push (.cells 43 [])) X2 y2 := by rw [kk9]; exact lk2
  have lt1 : H.next < Hp.next := by omega
  have lt2 : H.next < X1.next := by have := x1.1; omega
  have lt3 : H.next < X2.next := by have := x1.1; have := x2.1; omega
  have lt4 : H.next < Hp.next + 1 := by omega
  have lt5 : H.next < X1.next + 1 := by omega
  have ne1 : H.next ≠ Hp.next := by omega
  have ne2 : H.next ≠ X1.next := by omega
  have ne3 : H.next ≠ X2.next := by omega
  have g1 : X1.get H.next = _ := (x1.2.1 _ (by omega)).trans gp1
  have g2 : X2.get H.next = _ := (x2.2.1 _ (by omega)).trans g1
  have lf2 : leafs [AV.str o.machine, .rsl none 0 0 [], y1, y2] = true := by simp only [leafs, List.all_cons, List.all_nil, o1.leaf.2, o2.leaf.2, show leafA (AV.str o.machine) = true from rfl, show leafA (AV.rsl none 0 0 []) = true from rfl, Bool.and_self]
  have cl2 : AV.cells (.agg [.str o.machine, .rsl none 0 0 [], y1, y2]) = [.str o.machine, .rsl none 0 0 [], y1, y2] := by simp [cells_agg, o1.leaf.1, o2.leaf.1, AV.cells]
  have s1 := st_full (lo := lo') (n := 4) (v := .agg [.str o.machine, .rsl none 0 0 [], y1, y2]) (by rw [cl2]; rfl) rfl (by rw [cl2]; exact lf2) (X2.push (.cells 26 [.str ByteArray.empty, .rsl none 0 0 [], .rsl none 0 0 [], .rsl none 0 0 []])) X2.next (by rw [Heap.get_push, if_pos rfl]) (by omega)
  rw [cl2] at s1
  have fl : fillA (fun i => [(0, 1), (1, 1), (2, 1), (3, 1)][i]?) [AV.str ByteArray.empty, .rsl none 0 0 [], .rsl none 0 0 [], .rsl none 0 0 []] [(0, AV.str o.machine), (2, y1), (3, y2)] = some [.str o.machine, .rsl none 0 0 [], y1, y2] := by
    simp [fillA, setRange, o1.leaf.1, o2.leaf.1, cells_str]
  simp (maxDischargeDepth := 8) -implicitDefEqProofs only [sr1, kA, Q.ev, evQ, evP, evalO, resultsA, tupA, AV.rfL, callV, exists_eq', List.length_set, ne_eq, Nat.reduceEqDiff, Nat.reduceLT, reduceCtorEq, Nat.reduceAdd, List.getElem?_cons_succ, List.getElem?_cons_zero, Option.map, if_true, if_false, beq_self_eq_true, List.length_cons, List.length_nil, List.cons_append, List.nil_append, List.append_nil, ite_self, Int.reduceBNe, Int.reduceBEq, Int.reduceLT, Int.reduceLE, heapFree, List.flatMap_nil, List.flatMap_cons, List.filter_nil, List.filter_cons, List.contains_cons, List.contains_nil, c5, o5_0, g5_0, o5_1a, o5_1b, u5_1, g5_1, o5_2, g5_2, o5_3, g5_3, o5_5, g5_5, o5_6, g5_6, o5_7, g5_7, o5_4, g5_4, o5_8, g5_8, he, Heap.get_push, Heap.get_set, con_low, kill_low, con_new, hid2_u, hid2_k', hid2_n, low_nil, low_cons, lowU_nil, lowU_cons, lowK_nil, lowK_cons, rf_all, Nat.reduceBEq, c5, a0, lf, hHp, hW, gp1, gp2, kk0, kk1, kk2, kk3, kk4, kk5, kk6, kk7, kk8, kk9, kk10, kk11, b1, b2, opA, aop, Option.bind, evalL, List.getElem?_toArray, ap1, ap2, kv_lok lk1', kv_lok lk2', lt1, lt2, lt3, lt4, lt5, ne1, ne2, ne3, g1, g2, s1, fl]
  have n1' := x1.1
  have n2' := x2.1
  generalize hK : (X2.push (.cells 26 [.str ByteArray.empty, .rsl none 0 0 [], .rsl none 0 0 [], .rsl none 0 0 []])).set X2.next (.cells 26 [.str o.machine, .rsl none 0 0 [], y1, y2]) = K
  have nK : K.next = X2.next + 1 := by rw [← hK]; rfl
  have hI0 : T5 o bs X2 K X2.next y1 y2 0 K (.rsl none 0 0 []) [] := by
    refine { ext := by rw [← hK]; exact ((Ext.refl X2).push _).set (Nat.le_refl _) _, nxt := Nat.le_refl _, g3 := by rw [← hK, Heap.get_set, if_pos rfl], len := rfl, s := .inl ⟨rfl, rfl⟩, done := fun j h => by simp at h }
  generalize hr : om Try.prog _ _ c5_l0 _ = r
  obtain ⟨x, e', H', rfl, rfl, ⟨v, us, hT⟩, he', a1, a2, a3⟩ := rn_of hr (twin5_l0 o _ _ _ bs hI hl hby X2 K H.next (H.next + 1) X2.next lo' y1 y2 hlo' (by omega) lt3 (Nat.le_refl _) g2 0 _ _ (Nat.zero_le _) ⟨⟨_, _, hI0⟩, by simp only [gd_eq, gd_ne, ne_eq, not_false_eq_true, Nat.reduceEqDiff, Nat.reduceLT, List.length_set, reduceCtorEq, he], by simp only [gd_eq, gd_ne, ne_eq, not_false_eq_true, Nat.reduceEqDiff, Nat.reduceLT, List.length_set, reduceCtorEq, he], by simp only [gd_eq, gd_ne, ne_eq, not_false_eq_true, Nat.reduceEqDiff, Nat.reduceLT, List.length_set, reduceCtorEq, he], by simp only [gd_eq, gd_ne, ne_eq, not_false_eq_true, Nat.reduceEqDiff, Nat.reduceLT, List.length_set, reduceCtorEq, he], by simp only [gd_eq, gd_ne, ne_eq, not_false_eq_true, Nat.reduceEqDiff, Nat.reduceLT, List.length_set, reduceCtorEq, he]; rfl⟩)
  have hgs := hT.s
  rw [List.take_length] at hgs
  have gg := hT.g3
  have gq : X2.get (H.next + 1) = some (.cells 26 [.str ByteArray.empty, .rsl none 0 0 [], .rsl none 0 0 [], .rsl none 0 0 []]) := (x2.2.1 _ (by omega)).trans ((x1.2.1 _ (by omega)).trans gp2)
  have gz : H'.get (H.next + 1) = _ := (hT.ext.2.1 _ (by omega)).trans gq
  have lf4 : leafs [AV.str o.machine, v, y1, y2] = true := by simp only [leafs, List.all_cons, List.all_nil, hgs.leaf.2, o1.leaf.2, o2.leaf.2, show leafA (AV.str o.machine) = true from rfl, Bool.and_self]
  have cl4 : AV.cells (.agg [.str o.machine, v, y1, y2]) = [.str o.machine, v, y1, y2] := rfl
  have s4 := st_full (lo := lo') (n := 4) (v := .agg [.str o.machine, v, y1, y2]) (by rw [cl4]; rfl) rfl (by rw [cl4]; exact lf4) H' (H.next + 1) gz (by omega)
  rw [cl4] at s4
  simp (maxDischargeDepth := 8) -implicitDefEqProofs only [sr1, kA, Q.ev, evQ, evP, evalO, resultsA, tupA, AV.rfL, callV, exists_eq', List.length_set, ne_eq, Nat.reduceEqDiff, Nat.reduceLT, reduceCtorEq, Nat.reduceAdd, List.getElem?_cons_succ, List.getElem?_cons_zero, Option.map, if_true, if_false, beq_self_eq_true, List.length_cons, List.length_nil, List.cons_append, List.nil_append, List.append_nil, ite_self, Int.reduceBNe, Int.reduceBEq, Int.reduceLT, Int.reduceLE, heapFree, List.flatMap_nil, List.flatMap_cons, List.filter_nil, List.filter_cons, List.contains_cons, List.contains_nil, c5, o5_0, g5_0, o5_1a, o5_1b, u5_1, g5_1, o5_2, g5_2, o5_3, g5_3, o5_5, g5_5, o5_6, g5_6, o5_7, g5_7, o5_4, g5_4, o5_8, g5_8, he, Heap.get_push, Heap.get_set, con_low, kill_low, con_new, hid2_u, hid2_k', hid2_n, low_nil, low_cons, lowU_nil, lowU_cons, lowK_nil, lowK_cons, rf_all, Nat.reduceBEq, a1, a2, a3, he', gg, s4, List.drop_zero, List.take_succ_cons, List.take_zero, List.take_nil, ld26]
  have own : OwnO H (H'.set (H.next + 1) (.cells 26 [.str o.machine, v, y1, y2])) o v y1 y2 us := by
    refine ⟨hT.len, (hgs.set (by omega)).old (by omega), fun j h => ((hT.done j (by rw [hT.len]; exact h) h).set (by omega)).old (by omega), (((o1.ext x2).ext hT.ext).set (by omega)).old (by omega), ((o2.ext hT.ext).set (by omega)).old (by omega)⟩
  split
  · rename_i hcc
    simp only [Bool.and_eq_true] at hcc
    obtain ⟨_, r1, r2, r3⟩ := hcc
    have z1 : o.secs = [] := by
      rcases own.s with ⟨_, hz⟩ | ⟨b, rfl, _⟩
      · have := zipV_len hT.len; rw [hz] at this; exact List.length_eq_zero_iff.1 this.symm
      · simp [AV.rf] at r1
    refine ⟨_, _, _, us, _, rfl, Ext.refl H, hT.len, ?_, fun j h => absurd h (by rw [z1]; simp), ?_, ?_⟩
    · rcases own.s with h | ⟨b, rfl, _⟩
      · exact .inl h
      · simp [AV.rf] at r1
    · rcases own.y with h | ⟨b, rfl, _⟩
      · exact .inl h
      · simp [AV.rf] at r2
    · rcases own.r with h | ⟨b, rfl, _⟩
      · exact .inl h
      · simp [AV.rf] at r3
  · exact ⟨_, _, _, us, _, rfl, (((xp.trans x1).trans x2).trans hT.ext).set (by omega) _ (by have := hT.nxt; omega), own⟩
end Go.Proofs.Ytejmfbeiejlgkaa.obj
/-! The Object laws, P18: the loops of ObjectChecks that write into the copy. Conditions: in each statement. -/
namespace Go.Proofs.Ytejmfbeiejlgkaa.obj
open Go Go.Ab
set_option maxRecDepth 100000
set_option linter.unusedSimpArgs false
set_option linter.unusedVariables false
def U8 (cs : List AV) : Prop := ∀ x ∈ cs, ∃ k : Int, x = .int .u8 k
/-- own memory made since G, of so many elements, with a property of its cells -/
def Sh (G H : Heap) (e : TypeId) (sz : Nat) (v : AV) (n : Nat) (Q : List AV → Prop) : Prop := (v = .rsl none 0 0 [] ∧ n = 0) ∨
  ∃ b cs, v = .sl b 0 n sz ∧ G.next ≤ b ∧ b < H.next ∧ H.get b = some (.cells e cs) ∧ cs.length = n * sz ∧ Q cs
theorem Sh.imp {G H : Heap} {e : TypeId} {sz n : Nat} {v : AV} {Q Q' : List AV → Prop} (h : Sh G H e sz v n Q) (k : ∀ cs, Q cs → Q' cs) : Sh G H e sz v n Q' := by
  rcases h with h | ⟨b, cs, h1, h2, h3, h4, h5, h6⟩
  · exact .inl h
  · exact .inr ⟨b, cs, h1, h2, h3, h4, h5, k _ h6⟩
theorem Sh.set {G H : Heap} {e : TypeId} {sz n : Nat} {v : AV} {Q Q' : List AV → Prop} {c : Nat} {t : TypeId} {cc cc' : List AV} (h : Sh G H e sz v n Q) (hc : H.get c = some (.cells t cc)) (hl : cc'.length = cc.length)
    (hQ : ∀ cs, Q cs → Q' cs) (hk : t = e → Q cc → Q' cc') : Sh G (H.set c (.cells t cc')) e sz v n Q' := by
  rcases h with h | ⟨b, cs, h1, h2, h3, h4, h5, h6⟩
  · exact .inl h
  · by_cases hb : b = c
    · subst hb
      rw [hc] at h4
      cases h4
      exact .inr ⟨b, cc', h1, h2, h3, by rw [Heap.get_set, if_pos rfl], by rw [hl]; exact h5, hk rfl h6⟩
    · exact .inr ⟨b, cs, h1, h2, h3, by rw [Heap.get_set, if_neg hb]; exact h4, h5, hQ _ h6⟩
theorem Sh.len {G H : Heap} {e : TypeId} {sz n : Nat} {v : AV} {Q : List AV → Prop} (h : Sh G H e sz v n Q) : lenlA v = some (.int .i64 n) := by
  rcases h with ⟨rfl, rfl⟩ | ⟨b, cs, rfl, _⟩ <;> rfl
theorem Own.sh {G K H : Heap} {e : TypeId} {sz : Nat} {v : AV} {vs : List AV} {Q : List AV → Prop} (h : Own K H sz e v vs) (hk : G.next ≤ K.next) (hv : ∀ x ∈ vs, x.cells.length = sz) (hQ : Q (vs.flatMap AV.cells)) : Sh G H e sz v vs.length Q := by
  rcases h with ⟨rfl, rfl⟩ | ⟨b, h1, h2, h3, h4⟩
  · exact .inl ⟨rfl, rfl⟩
  · exact .inr ⟨b, _, h1, by omega, h3, h4, flat_len vs hv, hQ⟩
def QS (G H : Heap) (n : Nat) (cs : List AV) : Prop := ∀ j < n, ∃ u m, cs[j * 3 + 2]? = some u ∧ m ≤ 40000 ∧ Sh G H 5 1 u m U8
/-- the copy while it is written into -/
structure Cp (G H : Heap) (b : Nat) (mc : ByteArray) (vs vy vr : AV) (ns ny nr : Nat) : Prop where
  ext : Ext G H
  b0 : G.next ≤ b
  get : H.get b = some (.cells 26 [.str mc, vs, vy, vr])
  s : Sh G H 39 3 vs ns (QS G H ns)
  y : Sh G H 41 3 vy ny (fun _ => True)
  r : Sh G H 43 8 vr nr (fun _ => True)
theorem Cp.st {G H : Heap} {b : Nat} {mc : ByteArray} {vs vy vr : AV} {ns ny nr c : Nat} {t : TypeId} {cc cc' : List AV} (h : Cp G H b mc vs vy vr ns ny nr) (ht : t ≠ 26) (hc : H.get c = some (.cells t cc)) (h1 : G.next ≤ c) (h2 : c < H.next) (hl : cc'.length = cc.length)
    (h5 : t = 5 → U8 cc → U8 cc') (h39 : t = 39 → ∀ j, cc'[j * 3 + 2]? = cc[j * 3 + 2]?) : Cp G (H.set c (.cells t cc')) b mc vs vy vr ns ny nr := by
  have hb : b ≠ c := by
    rintro rfl
    have := h.get
    rw [hc] at this
    cases this
    exact ht rfl
  refine ⟨h.ext.set h1 _ h2, h.b0, by rw [Heap.get_set, if_neg hb]; exact h.get, h.s.set hc hl ?_ ?_, h.y.set hc hl (fun _ _ => trivial) (fun _ _ => trivial), h.r.set hc hl (fun _ _ => trivial) (fun _ _ => trivial)⟩
  · intro cs hq j hj
    obtain ⟨u, m, q1, q2, q3⟩ := hq j hj
    exact ⟨u, m, q1, q2, q3.set hc hl (fun _ h => h) h5⟩
  · intro he hq j hj
    obtain ⟨u, m, q1, q2, q3⟩ := hq j hj
    exact ⟨u, m, (h39 he j).trans q1, q2, q3.set hc hl (fun _ h => h) h5⟩
set_option maxHeartbeats 8000000 in
theorem law_l1 (G : Heap) (b i m n lo : Nat) (mc : ByteArray) (u vy vr : AV) (ny nr : Nat) (d3 d7 d13 : AV) (hlo : lo ≤ G.next) (b9 : Nat) (hm : m ≤ 40000) (hin : i < n) : ∀ j e H', j ≤ m →
    (Cp G H' b mc (.sl b9 0 n 3) vy vr n ny nr ∧ (∃ cs, H'.get b9 = some (.cells 39 cs) ∧ cs[i * 3 + 2]? = some u) ∧ Sh G H' 5 1 u m U8 ∧ e.length = 138 ∧ gd e 3 = d3 ∧ gd e 7 = d7 ∧ gd e 13 = d13 ∧ gd e 12 = .ptr b 0 ∧ gd e 14 = .int .i64 i ∧ gd e 15 = .int .i64 j) →
    Rn (om Try.prog ⟨3, none⟩ lo c3_l1 ⟨e, [], H'⟩) fun x e' H' => x = .exit 2 ∧ Cp G H' b mc (.sl b9 0 n 3) vy vr n ny nr ∧ e'.length = 138 ∧ gd e' 3 = d3 ∧ gd e' 7 = d7 ∧ gd e' 13 = d13 ∧ gd e' 12 = .ptr b 0 ∧ gd e' 14 = .int .i64 i := by
  refine loop_rn m _ _ ?_
  rintro j e H' hj ⟨hC, ⟨cs, h9, hu⟩, hS, he, a3, a7, a13, a12, a14, a15⟩
  have gb := hC.get
  have ln := hS.len
  have ix : ixA 3 (.sl b9 0 n 3) (.int .i64 i) = some (.ptr b9 (i * 3)) := by simp [ixA, hin]
  by_cases h : j < m
  · have hdd : decide ((j : Int) < m) = true := decide_eq_true (by omega)
    have w1 : IntKind.i64.wrap ((j : Int) + 1) = ((j + 1 : Nat) : Int) := by rw [wi64 (by omega) (by omega)]; push_cast; rfl
    rcases hS with ⟨_, k⟩ | ⟨bb, cb, rfl, k1, k2, k3, k4, k5⟩
    · omega
    have hcb : cb.length = m := by omega
    obtain ⟨k, hk⟩ := k5 _ (List.getElem_mem (show j < cb.length by omega))
    have hk' : cb[j]? = some (.int .u8 k) := by rw [List.getElem?_eq_getElem (by omega), hk]
    have ix2 : ixA 1 (.sl bb 0 m 1) (.int .i64 j) = some (.ptr bb j) := by simp [ixA, h]
    have hU : U8 (cb.set j (.int .u8 (IntKind.u8.wrap (k + 1)))) := fun x hx => by
      rcases List.mem_or_eq_of_mem_set hx with hx | rfl
      · exact k5 x hx
      · exact ⟨_, rfl⟩
    have s1 := st_cell (lo := lo) (v := .int .u8 (IntKind.u8.wrap (k + 1))) rfl rfl H' bb j 5 cb k3 (by omega) (by omega)
    simp (maxDischargeDepth := 8) -implicitDefEqProofs only [sr1, kA, Q.ev, evQ, evP, evalO, resultsA, tupA, AV.rfL, callV, exists_eq', List.length_set, ne_eq, Nat.reduceEqDiff, Nat.reduceLT, reduceCtorEq, Nat.reduceAdd, List.getElem?_cons_succ, List.getElem?_cons_zero, Option.map, if_true, if_false, beq_self_eq_true, List.length_cons, List.length_nil, List.cons_append, List.nil_append, List.append_nil, ite_self, Int.reduceBNe, Int.reduceBEq, Int.reduceLT, Int.reduceLE, heapFree, hid2, List.flatMap_nil, List.flatMap_cons, List.filter_nil, List.filter_cons, List.contains_cons, List.contains_nil, c3, o3_0, g3_0, o3_1, g3_1, o3_2, g3_2, o3_3, g3_3, o3_4, g3_4, o3_5, g3_5, o3_6, g3_6, o3_7a, o3_7b, g3_7, o3_8, g3_8, o3_9, g3_9, o3_11, g3_11, o3_12, g3_12, o3_14, g3_14, o3_13, g3_13, o3_15, g3_15, o3_10, g3_10, o3_16, g3_16, o3_17, g3_17, o3_19, g3_19, o3_18, g3_18, o3_20, g3_20, o3_21, g3_21, o3_23, g3_23, o3_22, g3_22, o3_24, g3_24, he, Heap.get_push, Heap.get_set, c3_b1, a3, a7, a13, a12, a14, a15, gb, h9, hu, ln, ix, hdd, ix2, k3, hk', s1, w1, h]
    have hne : b9 ≠ bb := by
      rintro rfl
      rw [h9] at k3; cases k3
    refine ⟨hC.st (by decide) k3 k1 k2 (by simp) (fun _ _ => hU) (fun h => by cases h), ⟨cs, by rw [if_neg hne], hu⟩, .inr ⟨bb, _, rfl, k1, k2, by rw [Heap.get_set, if_pos rfl], by simp [hcb], hU⟩⟩
  · obtain rfl : j = m := by omega
    have hdd : decide ((j : Int) < j) = false := decide_eq_false (by omega)
    simp (maxDischargeDepth := 8) -implicitDefEqProofs only [sr1, kA, Q.ev, evQ, evP, evalO, resultsA, tupA, AV.rfL, callV, exists_eq', List.length_set, ne_eq, Nat.reduceEqDiff, Nat.reduceLT, reduceCtorEq, Nat.reduceAdd, List.getElem?_cons_succ, List.getElem?_cons_zero, Option.map, if_true, if_false, beq_self_eq_true, List.length_cons, List.length_nil, List.cons_append, List.nil_append, List.append_nil, ite_self, Int.reduceBNe, Int.reduceBEq, Int.reduceLT, Int.reduceLE, heapFree, hid2, List.flatMap_nil, List.flatMap_cons, List.filter_nil, List.filter_cons, List.contains_cons, List.contains_nil, c3, o3_0, g3_0, o3_1, g3_1, o3_2, g3_2, o3_3, g3_3, o3_4, g3_4, o3_5, g3_5, o3_6, g3_6, o3_7a, o3_7b, g3_7, o3_8, g3_8, o3_9, g3_9, o3_11, g3_11, o3_12, g3_12, o3_14, g3_14, o3_13, g3_13, o3_15, g3_15, o3_10, g3_10, o3_16, g3_16, o3_17, g3_17, o3_19, g3_19, o3_18, g3_18, o3_20, g3_20, o3_21, g3_21, o3_23, g3_23, o3_22, g3_22, o3_24, g3_24, he, Heap.get_push, Heap.get_set, c3_b1, a3, a7, a13, a12, a14, a15, gb, h9, hu, ln, ix, hdd]
    exact hC
set_option maxHeartbeats 8000000 in
theorem law_l0 (G : Heap) (b n lo : Nat) (mc : ByteArray) (vs vy vr : AV) (ny nr : Nat) (d3 d7 d13 : AV) (hlo : lo ≤ G.next) (hn : n ≤ 40000) : ∀ i e H', i ≤ n →
    (Cp G H' b mc vs vy vr n ny nr ∧ e.length = 138 ∧ gd e 3 = d3 ∧ gd e 7 = d7 ∧ gd e 13 = d13 ∧ gd e 12 = .ptr b 0 ∧ gd e 14 = .int .i64 i) →
    Rn (om Try.prog ⟨3, none⟩ lo c3_l0 ⟨e, [], H'⟩) fun x e' H' => x = .exit 0 ∧ Cp G H' b mc vs vy vr n ny nr ∧ e'.length = 138 ∧ gd e' 3 = d3 ∧ gd e' 7 = d7 ∧ gd e' 13 = d13 ∧ gd e' 12 = .ptr b 0 := by
  refine loop_rn n _ _ ?_
  rintro i e H' hi ⟨hC, he, a3, a7, a13, a12, a14⟩
  have gb := hC.get
  have ln := hC.s.len
  by_cases h : i < n
  · have hdd : decide ((i : Int) < n) = true := decide_eq_true (by omega)
    have w1 : IntKind.i64.wrap ((i : Int) + 1) = ((i + 1 : Nat) : Int) := by rw [wi64 (by omega) (by omega)]; push_cast; rfl
    have hS := hC.s
    rcases hS with ⟨_, k⟩ | ⟨b9, cs, rfl, k1, k2, k3, k4, k5⟩
    · omega
    obtain ⟨u, m, q1, q2, q3⟩ := k5 i h
    simp (maxDischargeDepth := 8) -implicitDefEqProofs only [sr1, kA, Q.ev, evQ, evP, evalO, resultsA, tupA, AV.rfL, callV, exists_eq', List.length_set, ne_eq, Nat.reduceEqDiff, Nat.reduceLT, reduceCtorEq, Nat.reduceAdd, List.getElem?_cons_succ, List.getElem?_cons_zero, Option.map, if_true, if_false, beq_self_eq_true, List.length_cons, List.length_nil, List.cons_append, List.nil_append, List.append_nil, ite_self, Int.reduceBNe, Int.reduceBEq, Int.reduceLT, Int.reduceLE, heapFree, hid2, List.flatMap_nil, List.flatMap_cons, List.filter_nil, List.filter_cons, List.contains_cons, List.contains_nil, c3, o3_0, g3_0, o3_1, g3_1, o3_2, g3_2, o3_3, g3_3, o3_4, g3_4, o3_5, g3_5, o3_6, g3_6, o3_7a, o3_7b, g3_7, o3_8, g3_8, o3_9, g3_9, o3_11, g3_11, o3_12, g3_12, o3_14, g3_14, o3_13, g3_13, o3_15, g3_15, o3_10, g3_10, o3_16, g3_16, o3_17, g3_17, o3_19, g3_19, o3_18, g3_18, o3_20, g3_20, o3_21, g3_21, o3_23, g3_23, o3_22, g3_22, o3_24, g3_24, he, Heap.get_push, Heap.get_set, c3_b0, a3, a7, a13, a12, a14, gb, ln, hdd]
    generalize hr : om Try.prog _ _ c3_l1 _ = r
    obtain ⟨x, e1, H1, rfl, rfl, hC1, he1, b3, b7, b13, b12, b14⟩ := rn_of hr (law_l1 G b i m n lo mc u vy vr ny nr d3 d7 d13 hlo b9 q2 h 0 _ _ (Nat.zero_le _) ⟨hC, ⟨cs, k3, q1⟩, q3, by simp only [gd_eq, gd_ne, ne_eq, not_false_eq_true, Nat.reduceEqDiff, Nat.reduceLT, List.length_set, reduceCtorEq, he], by simp only [gd_eq, gd_ne, ne_eq, not_false_eq_true, Nat.reduceEqDiff, Nat.reduceLT, List.length_set, reduceCtorEq, he, a3], by simp only [gd_eq, gd_ne, ne_eq, not_false_eq_true, Nat.reduceEqDiff, Nat.reduceLT, List.length_set, reduceCtorEq, he, a7], by simp only [gd_eq, gd_ne, ne_eq, not_false_eq_true, Nat.reduceEqDiff, Nat.reduceLT, List.length_set, reduceCtorEq, he, a13], by simp only [gd_eq, gd_ne, ne_eq, not_false_eq_true, Nat.reduceEqDiff, Nat.reduceLT, List.length_set, reduceCtorEq, he, a12], by simp only [gd_eq, gd_ne, ne_eq, not_false_eq_true, Nat.reduceEqDiff, Nat.reduceLT, List.length_set, reduceCtorEq, he, a14], by simp only [gd_eq, gd_ne, ne_eq, not_false_eq_true, Nat.reduceEqDiff, Nat.reduceLT, List.length_set, reduceCtorEq, he]; rfl⟩)
    have gb1 := hC1.get
    have hS := hC1.s
    rcases hS with ⟨_, k⟩ | ⟨b9', cs1, k0, p1, p2, p3, p4, p5⟩
    · omega
    cases k0
    have ix : ixA 3 (.sl b9 0 n 3) (.int .i64 i) = some (.ptr b9 (i * 3)) := by simp [ixA, h]
    have s1 := st_cell (lo := lo) (v := .int .i64 77) rfl rfl H1 b9 (i * 3 + 1) 39 cs1 p3 (by omega) (by omega)
    simp (maxDischargeDepth := 8) -implicitDefEqProofs only [sr1, kA, Q.ev, evQ, evP, evalO, resultsA, tupA, AV.rfL, callV, exists_eq', List.length_set, ne_eq, Nat.reduceEqDiff, Nat.reduceLT, reduceCtorEq, Nat.reduceAdd, List.getElem?_cons_succ, List.getElem?_cons_zero, Option.map, if_true, if_false, beq_self_eq_true, List.length_cons, List.length_nil, List.cons_append, List.nil_append, List.append_nil, ite_self, Int.reduceBNe, Int.reduceBEq, Int.reduceLT, Int.reduceLE, heapFree, hid2, List.flatMap_nil, List.flatMap_cons, List.filter_nil, List.filter_cons, List.contains_cons, List.contains_nil, c3, o3_0, g3_0, o3_1, g3_1, o3_2, g3_2, o3_3, g3_3, o3_4, g3_4, o3_5, g3_5, o3_6, g3_6, o3_7a, o3_7b, g3_7, o3_8, g3_8, o3_9, g3_9, o3_11, g3_11, o3_12, g3_12, o3_14, g3_14, o3_13, g3_13, o3_15, g3_15, o3_10, g3_10, o3_16, g3_16, o3_17, g3_17, o3_19, g3_19, o3_18, g3_18, o3_20, g3_20, o3_21, g3_21, o3_23, g3_23, o3_22, g3_22, o3_24, g3_24, he, Heap.get_push, Heap.get_set, he1, b3, b7, b13, b12, b14, gb1, ix, s1, w1, h]
    exact hC1.st (by decide) p3 p1 p2 (by simp) (fun h => by cases h) (fun _ j => by rw [List.getElem?_set_ne (by omega)])
  · obtain rfl : i = n := by omega
    have hdd : decide ((i : Int) < i) = false := decide_eq_false (by omega)
    simp (maxDischargeDepth := 8) -implicitDefEqProofs only [sr1, kA, Q.ev, evQ, evP, evalO, resultsA, tupA, AV.rfL, callV, exists_eq', List.length_set, ne_eq, Nat.reduceEqDiff, Nat.reduceLT, reduceCtorEq, Nat.reduceAdd, List.getElem?_cons_succ, List.getElem?_cons_zero, Option.map, if_true, if_false, beq_self_eq_true, List.length_cons, List.length_nil, List.cons_append, List.nil_append, List.append_nil, ite_self, Int.reduceBNe, Int.reduceBEq, Int.reduceLT, Int.reduceLE, heapFree, hid2, List.flatMap_nil, List.flatMap_cons, List.filter_nil, List.filter_cons, List.contains_cons, List.contains_nil, c3, o3_0, g3_0, o3_1, g3_1, o3_2, g3_2, o3_3, g3_3, o3_4, g3_4, o3_5, g3_5, o3_6, g3_6, o3_7a, o3_7b, g3_7, o3_8, g3_8, o3_9, g3_9, o3_11, g3_11, o3_12, g3_12, o3_14, g3_14, o3_13, g3_13, o3_15, g3_15, o3_10, g3_10, o3_16, g3_16, o3_17, g3_17, o3_19, g3_19, o3_18, g3_18, o3_20, g3_20, o3_21, g3_21, o3_23, g3_23, o3_22, g3_22, o3_24, g3_24, he, Heap.get_push, Heap.get_set, c3_b0, a3, a7, a13, a12, a14, gb, ln, hdd]
    exact hC
set_option maxHeartbeats 8000000 in
theorem law_l2 (G : Heap) (b n lo : Nat) (mc : ByteArray) (vs vy vr : AV) (ns nr : Nat) (d3 d7 d13 : AV) (hlo : lo ≤ G.next) (hn : n ≤ 40000) : ∀ i e H', i ≤ n →
    (Cp G H' b mc vs vy vr ns n nr ∧ e.length = 138 ∧ gd e 3 = d3 ∧ gd e 7 = d7 ∧ gd e 13 = d13 ∧ gd e 12 = .ptr b 0 ∧ gd e 16 = .int .i64 i) →
    Rn (om Try.prog ⟨3, none⟩ lo c3_l2 ⟨e, [], H'⟩) fun x e' H' => x = .exit 4 ∧ Cp G H' b mc vs vy vr ns n nr ∧ e'.length = 138 ∧ gd e' 3 = d3 ∧ gd e' 7 = d7 ∧ gd e' 13 = d13 ∧ gd e' 12 = .ptr b 0 := by
  refine loop_rn n _ _ ?_
  rintro i e H' hi ⟨hC, he, a3, a7, a13, a12, a14⟩
  have gb := hC.get
  have ln := hC.y.len
  by_cases h : i < n
  · have hdd : decide ((i : Int) < n) = true := decide_eq_true (by omega)
    have w1 : IntKind.i64.wrap ((i : Int) + 1) = ((i + 1 : Nat) : Int) := by rw [wi64 (by omega) (by omega)]; push_cast; rfl
    have hS := hC.y
    rcases hS with ⟨_, k⟩ | ⟨b9, cs1, rfl, p1, p2, p3, p4, p5⟩
    · omega
    have ix : ixA 3 (.sl b9 0 n 3) (.int .i64 i) = some (.ptr b9 (i * 3)) := by simp [ixA, h]
    have s1 := st_cell (lo := lo) (v := .int .i64 77) rfl rfl H' b9 (i * 3 + 2) 41 cs1 p3 (by omega) (by omega)
    simp (maxDischargeDepth := 8) -implicitDefEqProofs only [sr1, kA, Q.ev, evQ, evP, evalO, resultsA, tupA, AV.rfL, callV, exists_eq', List.length_set, ne_eq, Nat.reduceEqDiff, Nat.reduceLT, reduceCtorEq, Nat.reduceAdd, List.getElem?_cons_succ, List.getElem?_cons_zero, Option.map, if_true, if_false, beq_self_eq_true, List.length_cons, List.length_nil, List.cons_append, List.nil_append, List.append_nil, ite_self, Int.reduceBNe, Int.reduceBEq, Int.reduceLT, Int.reduceLE, heapFree, hid2, List.flatMap_nil, List.flatMap_cons, List.filter_nil, List.filter_cons, List.contains_cons, List.contains_nil, c3, o3_0, g3_0, o3_1, g3_1, o3_2, g3_2, o3_3, g3_3, o3_4, g3_4, o3_5, g3_5, o3_6, g3_6, o3_7a, o3_7b, g3_7, o3_8, g3_8, o3_9, g3_9, o3_11, g3_11, o3_12, g3_12, o3_14, g3_14, o3_13, g3_13, o3_15, g3_15, o3_10, g3_10, o3_16, g3_16, o3_17, g3_17, o3_19, g3_19, o3_18, g3_18, o3_20, g3_20, o3_21, g3_21, o3_23, g3_23, o3_22, g3_22, o3_24, g3_24, he, Heap.get_push, Heap.get_set, c3_b2, a3, a7, a13, a12, a14, gb, ln, hdd, ix, s1, w1, h]
    exact hC.st (by decide) p3 p1 p2 (by simp) (fun h => by cases h) (fun h => by cases h)
  · obtain rfl : i = n := by omega
    have hdd : decide ((i : Int) < i) = false := decide_eq_false (by omega)
    simp (maxDischargeDepth := 8) -implicitDefEqProofs only [sr1, kA, Q.ev, evQ, evP, evalO, resultsA, tupA, AV.rfL, callV, exists_eq', List.length_set, ne_eq, Nat.reduceEqDiff, Nat.reduceLT, reduceCtorEq, Nat.reduceAdd, List.getElem?_cons_succ, List.getElem?_cons_zero, Option.map, if_true, if_false, beq_self_eq_true, List.length_cons, List.length_nil, List.cons_append, List.nil_append, List.append_nil, ite_self, Int.reduceBNe, Int.reduceBEq, Int.reduceLT, Int.reduceLE, heapFree, hid2, List.flatMap_nil, List.flatMap_cons, List.filter_nil, List.filter_cons, List.contains_cons, List.contains_nil, c3, o3_0, g3_0, o3_1, g3_1, o3_2, g3_2, o3_3, g3_3, o3_4, g3_4, o3_5, g3_5, o3_6, g3_6, o3_7a, o3_7b, g3_7, o3_8, g3_8, o3_9, g3_9, o3_11, g3_11, o3_12, g3_12, o3_14, g3_14, o3_13, g3_13, o3_15, g3_15, o3_10, g3_10, o3_16, g3_16, o3_17, g3_17, o3_19, g3_19, o3_18, g3_18, o3_20, g3_20, o3_21, g3_21, o3_23, g3_23, o3_22, g3_22, o3_24, g3_24, he, Heap.get_push, Heap.get_set, c3_b2, a3, a7, a13, a12, a14, gb, ln, hdd]
    exact hC
set_option maxHeartbeats 8000000 in
theorem law_l3 (G : Heap) (b n lo : Nat) (mc : ByteArray) (vs vy vr : AV) (ns ny : Nat) (d3 d7 d13 : AV) (hlo : lo ≤ G.next) (hn : n ≤ 40000) : ∀ i e H', i ≤ n →
    (Cp G H' b mc vs vy vr ns ny n ∧ e.length = 138 ∧ gd e 3 = d3 ∧ gd e 7 = d7 ∧ gd e 13 = d13 ∧ gd e 12 = .ptr b 0 ∧ gd e 17 = .int .i64 i) →
    Rn (om Try.prog ⟨3, none⟩ lo c3_l3 ⟨e, [], H'⟩) fun x e' H' => x = .exit 6 ∧ Cp G H' b mc vs vy vr ns ny n ∧ e'.length = 138 ∧ gd e' 3 = d3 ∧ gd e' 7 = d7 ∧ gd e' 13 = d13 := by
  refine loop_rn n _ _ ?_
  rintro i e H' hi ⟨hC, he, a3, a7, a13, a12, a14⟩
  have gb := hC.get
  have ln := hC.r.len
  by_cases h : i < n
  · have hdd : decide ((i : Int) < n) = true := decide_eq_true (by omega)
    have w1 : IntKind.i64.wrap ((i : Int) + 1) = ((i + 1 : Nat) : Int) := by rw [wi64 (by omega) (by omega)]; push_cast; rfl
    have hS := hC.r
    rcases hS with ⟨_, k⟩ | ⟨b9, cs1, rfl, p1, p2, p3, p4, p5⟩
    · omega
    have ix : ixA 8 (.sl b9 0 n 8) (.int .i64 i) = some (.ptr b9 (i * 8)) := by simp [ixA, h]
    have s1 := st_cell (lo := lo) (v := .int .i64 77) rfl rfl H' b9 (i * 8 + 1) 43 cs1 p3 (by omega) (by omega)
    simp (maxDischargeDepth := 8) -implicitDefEqProofs only [sr1, kA, Q.ev, evQ, evP, evalO, resultsA, tupA, AV.rfL, callV, exists_eq', List.length_set, ne_eq, Nat.reduceEqDiff, Nat.reduceLT, reduceCtorEq, Nat.reduceAdd, List.getElem?_cons_succ, List.getElem?_cons_zero, Option.map, if_true, if_false, beq_self_eq_true, List.length_cons, List.length_nil, List.cons_append, List.nil_append, List.append_nil, ite_self, Int.reduceBNe, Int.reduceBEq, Int.reduceLT, Int.reduceLE, heapFree, hid2, List.flatMap_nil, List.flatMap_cons, List.filter_nil, List.filter_cons, List.contains_cons, List.contains_nil, c3, o3_0, g3_0, o3_1, g3_1, o3_2, g3_2, o3_3, g3_3, o3_4, g3_4, o3_5, g3_5, o3_6, g3_6, o3_7a, o3_7b, g3_7, o3_8, g3_8, o3_9, g3_9, o3_11, g3_11, o3_12, g3_12, o3_14, g3_14, o3_13, g3_13, o3_15, g3_15, o3_10, g3_10, o3_16, g3_16, o3_17, g3_17, o3_19, g3_19, o3_18, g3_18, o3_20, g3_20, o3_21, g3_21, o3_23, g3_23, o3_22, g3_22, o3_24, g3_24, he, Heap.get_push, Heap.get_set, c3_b3, a3, a7, a13, a12, a14, gb, ln, hdd, ix, s1, w1, h]
    exact hC.st (by decide) p3 p1 p2 (by simp) (fun h => by cases h) (fun h => by cases h)
  · obtain rfl : i = n := by omega
    have hdd : decide ((i : Int) < i) = false := decide_eq_false (by omega)
    simp (maxDischargeDepth := 8) -implicitDefEqProofs only [sr1, kA, Q.ev, evQ, evP, evalO, resultsA, tupA, AV.rfL, callV, exists_eq', List.length_set, ne_eq, Nat.reduceEqDiff, Nat.reduceLT, reduceCtorEq, Nat.reduceAdd, List.getElem?_cons_succ, List.getElem?_cons_zero, Option.map, if_true, if_false, beq_self_eq_true, List.length_cons, List.length_nil, List.cons_append, List.nil_append, List.append_nil, ite_self, Int.reduceBNe, Int.reduceBEq, Int.reduceLT, Int.reduceLE, heapFree, hid2, List.flatMap_nil, List.flatMap_cons, List.filter_nil, List.filter_cons, List.contains_cons, List.contains_nil, c3, o3_0, g3_0, o3_1, g3_1, o3_2, g3_2, o3_3, g3_3, o3_4, g3_4, o3_5, g3_5, o3_6, g3_6, o3_7a, o3_7b, g3_7, o3_8, g3_8, o3_9, g3_9, o3_11, g3_11, o3_12, g3_12, o3_14, g3_14, o3_13, g3_13, o3_15, g3_15, o3_10, g3_10, o3_16, g3_16, o3_17, g3_17, o3_19, g3_19, o3_18, g3_18, o3_20, g3_20, o3_21, g3_21, o3_23, g3_23, o3_22, g3_22, o3_24, g3_24, he, Heap.get_push, Heap.get_set, c3_b3, a3, a7, a13, a12, a14, gb, ln, hdd]
    exact hC
end Go.Proofs.Ytejmfbeiejlgkaa.obj
/-! The Object laws, P19: ObjectChecks holds. Conditions: in each statement. -/
namespace Go.Proofs.Ytejmfbeiejlgkaa.obj
open Go Go.Ab
set_option maxRecDepth 100000
set_option linter.unusedSimpArgs false
set_option linter.unusedVariables false
theorem OwnO.ext {G H H' : Heap} {o : Obj} {vs vy vr : AV} {us : List AV} (h : OwnO G H o vs vy vr us) (k : Ext H H') : OwnO G H' o vs vy vr us :=
  ⟨h.len, h.s.ext k, fun i hi => (h.b i hi).ext k, h.y.ext k, h.r.ext k⟩
theorem OwnO.lf {G H : Heap} {o : Obj} {vs vy vr : AV} {us : List AV} (h : OwnO G H o vs vy vr us) : leafs [.str o.machine, vs, vy, vr] = true := by
  simp only [leafs, List.all_cons, List.all_nil, h.s.leaf.2, h.y.leaf.2, h.r.leaf.2, show leafA (AV.str o.machine) = true from rfl, Bool.and_self]
/-- the copy is stored into a new variable -/
theorem OwnO.new {G H : Heap} {lo : Nat} {o : Obj} {vs vy vr : AV} {us : List AV} (h : OwnO G H o vs vy vr us) (hlo : lo ≤ H.next) : ∃ H', stA lo (H.push (.cells 26 [.str ByteArray.empty, .rsl none 0 0 [], .rsl none 0 0 [], .rsl none 0 0 []])) 4 (.ptr H.next 0) (.agg [.str o.machine, vs, vy, vr]) = some H' ∧ H'.next = H.next + 1 ∧ H'.get H.next = some (.cells 26 [.str o.machine, vs, vy, vr]) ∧ Ext H H' := by
  have s := st_full (lo := lo) (n := 4) (t := 26) (z := [.str ByteArray.empty, .rsl none 0 0 [], .rsl none 0 0 [], .rsl none 0 0 []]) (v := .agg [.str o.machine, vs, vy, vr]) rfl rfl h.lf (H.push (.cells 26 [.str ByteArray.empty, .rsl none 0 0 [], .rsl none 0 0 [], .rsl none 0 0 []])) H.next (by rw [Heap.get_push, if_pos rfl]) hlo
  exact ⟨_, s, rfl, by rw [Heap.get_set, if_pos rfl]; rfl, ((Ext.refl H).push _).set (Nat.le_refl _) _⟩
theorem symV_cells {l : List Sym} : ∀ x ∈ l.map symV, x.cells.length = 3 := by
  intro x hx; obtain ⟨p, _, rfl⟩ := List.mem_map.1 hx; rfl
theorem relV_cells {l : List Rel} : ∀ x ∈ l.map relV, x.cells.length = 8 := by
  intro x hx; obtain ⟨p, _, rfl⟩ := List.mem_map.1 hx; rfl
theorem OwnO.cp {G K H : Heap} {o : Obj} {vs vy vr : AV} {us : List AV} {b : Nat} (h : OwnO K H o vs vy vr us) (hk : G.next ≤ K.next) (hx : Ext G H) (hb : G.next ≤ b) (hg : H.get b = some (.cells 26 [.str o.machine, vs, vy, vr])) (hby : ∀ s ∈ o.secs, s.bytes.length ≤ 40000) :
    Cp G H b o.machine vs vy vr o.secs.length o.syms.length o.rels.length := by
  refine ⟨hx, hb, hg, ?_, ?_, ?_⟩
  · have := h.s.sh (Q := QS G H o.secs.length) hk zipV_cells ?_
    · rwa [zipV_len h.len] at this
    · intro j hj
      refine ⟨us[j]'(by rw [h.len]; exact hj), o.secs[j].bytes.length, zipV_get h.len hj, hby _ (List.getElem_mem hj), ?_⟩
      have := (h.b j hj).sh (Q := U8) hk bytV_cells ?_
      · simpa [bytV] using this
      · intro x hx
        obtain ⟨y, hy, hx⟩ := List.mem_flatMap.1 hx
        obtain ⟨n, _, rfl⟩ := List.mem_map.1 hy
        simp only [cells_int, List.mem_singleton] at hx
        exact ⟨_, hx⟩
  · have := h.y.sh (Q := fun _ => True) hk symV_cells trivial
    simpa using this
  · have := h.r.sh (Q := fun _ => True) hk relV_cells trivial
    simpa using this
theorem findV_tup (o : Obj) (nm : ByteArray) : ∃ x y : Int, findV o nm = .tup [.int .i64 x, .int .i64 y] := by
  unfold findV
  split
  · split
    · exact ⟨_, _, rfl⟩
    · exact ⟨_, _, rfl⟩
  · exact ⟨_, _, rfl⟩
set_option maxHeartbeats 8000000 in
theorem law_run (a b : Obj) (nm : ByteArray) (vs vy vr ws wy wr : AV) (bs cs : List AV) (ha : InO a vs vy vr bs) (hb : InO b ws wy wr cs) (lo : Nat) (H : Heap) (hlo : lo ≤ H.next) :
    callA Try.prog (om Try.prog) lo 3 [.agg [.str a.machine, vs, vy, vr], .agg [.str b.machine, ws, wy, wr], .str nm] H = some (.bool true, H) := by
  obtain ⟨e, he, a0, a1, a2, hc⟩ := c3_in (.agg [.str a.machine, vs, vy, vr]) (.agg [.str b.machine, ws, wy, wr]) (.str nm) lo H
  rw [hc]
  clear hc
  have rf : AV.rfL [.agg [.str a.machine, vs, vy, vr], .agg [.str b.machine, ws, wy, wr], .str nm] = true := by
    simp only [AV.rfL, AV.rf, ha.rs, ha.ry, ha.rr, hb.rs, hb.ry, hb.rr, Bool.and_self]
  rw [rf]
  simp only [if_true]
  generalize hHp : (H.push (.cells 26 [.str a.machine, vs, vy, vr])).push (.cells 26 [.str b.machine, ws, wy, wr]) = Hp
  have np : Hp.next = H.next + 1 + 1 := by rw [← hHp]; rfl
  have gp1 : Hp.get H.next = some (.cells 26 [.str a.machine, vs, vy, vr]) := by rw [← hHp]; simp [Heap.get_push]
  have gp2 : Hp.get (H.next + 1) = some (.cells 26 [.str b.machine, ws, wy, wr]) := by rw [← hHp]; simp [Heap.get_push]
  obtain ⟨d1, gr1, k1⟩ := great_run Hp _ a (ha.rd Hp) H.next
  obtain ⟨d2, gr2, k2⟩ := great_run Hp _ b (hb.rd Hp) H.next
  have lfa : leafs [.str a.machine, vs, vy, vr] = true := by obtain ⟨_, _, _, e1, h1, h2, h3⟩ := ha.rd H; cases e1; exact obj_leafs h1 h2 h3
  have lfb : leafs [.str b.machine, ws, wy, wr] = true := by obtain ⟨_, _, _, e1, h1, h2, h3⟩ := hb.rd H; cases e1; exact obj_leafs h1 h2 h3
  simp (maxDischargeDepth := 8) -implicitDefEqProofs only [sr1, kA, Q.ev, evQ, evP, evalO, resultsA, tupA, AV.rfL, callV, exists_eq', List.length_set, ne_eq, Nat.reduceEqDiff, Nat.reduceLT, reduceCtorEq, Nat.reduceAdd, List.getElem?_cons_succ, List.getElem?_cons_zero, Option.map, if_true, if_false, beq_self_eq_true, List.length_cons, List.length_nil, List.cons_append, List.nil_append, List.append_nil, ite_self, Int.reduceBNe, Int.reduceBEq, Int.reduceLT, Int.reduceLE, heapFree, hid2, List.flatMap_nil, List.flatMap_cons, List.filter_nil, List.filter_cons, List.contains_cons, List.contains_nil, c3, o3_0, g3_0, o3_1, g3_1, o3_2, g3_2, o3_3, g3_3, o3_4, g3_4, o3_5, g3_5, o3_6, g3_6, o3_7a, o3_7b, g3_7, o3_8, g3_8, o3_9, g3_9, o3_11, g3_11, o3_12, g3_12, o3_14, g3_14, o3_13, g3_13, o3_15, g3_15, o3_10, g3_10, o3_16, g3_16, o3_17, g3_17, o3_19, g3_19, o3_18, g3_18, o3_20, g3_20, o3_21, g3_21, o3_23, g3_23, o3_22, g3_22, o3_24, g3_24, he, Heap.get_push, Heap.get_set, List.drop_zero, List.take_succ_cons, List.take_zero, List.take_nil, c3, a0, a1, a2, lfa, lfb, hHp, gp1, gp2, gr1]
  cases d1
  case true =>
    simp (maxDischargeDepth := 8) -implicitDefEqProofs only [sr1, kA, Q.ev, evQ, evP, evalO, resultsA, tupA, AV.rfL, callV, exists_eq', List.length_set, ne_eq, Nat.reduceEqDiff, Nat.reduceLT, reduceCtorEq, Nat.reduceAdd, List.getElem?_cons_succ, List.getElem?_cons_zero, Option.map, if_true, if_false, beq_self_eq_true, List.length_cons, List.length_nil, List.cons_append, List.nil_append, List.append_nil, ite_self, Int.reduceBNe, Int.reduceBEq, Int.reduceLT, Int.reduceLE, heapFree, hid2, List.flatMap_nil, List.flatMap_cons, List.filter_nil, List.filter_cons, List.contains_cons, List.contains_nil, c3, o3_0, g3_0, o3_1, g3_1, o3_2, g3_2, o3_3, g3_3, o3_4, g3_4, o3_5, g3_5, o3_6, g3_6, o3_7a, o3_7b, g3_7, o3_8, g3_8, o3_9, g3_9, o3_11, g3_11, o3_12, g3_12, o3_14, g3_14, o3_13, g3_13, o3_15, g3_15, o3_10, g3_10, o3_16, g3_16, o3_17, g3_17, o3_19, g3_19, o3_18, g3_18, o3_20, g3_20, o3_21, g3_21, o3_23, g3_23, o3_22, g3_22, o3_24, g3_24, he, Heap.get_push, Heap.get_set, List.drop_zero, List.take_succ_cons, List.take_zero, List.take_nil, c3, a0, a1, a2, lfa, lfb, hHp, gp1, gp2, gr1]
  simp (maxDischargeDepth := 8) -implicitDefEqProofs only [sr1, kA, Q.ev, evQ, evP, evalO, resultsA, tupA, AV.rfL, callV, exists_eq', List.length_set, ne_eq, Nat.reduceEqDiff, Nat.reduceLT, reduceCtorEq, Nat.reduceAdd, List.getElem?_cons_succ, List.getElem?_cons_zero, Option.map, if_true, if_false, beq_self_eq_true, List.length_cons, List.length_nil, List.cons_append, List.nil_append, List.append_nil, ite_self, Int.reduceBNe, Int.reduceBEq, Int.reduceLT, Int.reduceLE, heapFree, hid2, List.flatMap_nil, List.flatMap_cons, List.filter_nil, List.filter_cons, List.contains_cons, List.contains_nil, c3, o3_0, g3_0, o3_1, g3_1, o3_2, g3_2, o3_3, g3_3, o3_4, g3_4, o3_5, g3_5, o3_6, g3_6, o3_7a, o3_7b, g3_7, o3_8, g3_8, o3_9, g3_9, o3_11, g3_11, o3_12, g3_12, o3_14, g3_14, o3_13, g3_13, o3_15, g3_15, o3_10, g3_10, o3_16, g3_16, o3_17, g3_17, o3_19, g3_19, o3_18, g3_18, o3_20, g3_20, o3_21, g3_21, o3_23, g3_23, o3_22, g3_22, o3_24, g3_24, he, Heap.get_push, Heap.get_set, List.drop_zero, List.take_succ_cons, List.take_zero, List.take_nil, c3, a0, a1, a2, lfa, lfb, hHp, gp1, gp2, gr2]
  cases d2
  case true =>
    simp (maxDischargeDepth := 8) -implicitDefEqProofs only [sr1, kA, Q.ev, evQ, evP, evalO, resultsA, tupA, AV.rfL, callV, exists_eq', List.length_set, ne_eq, Nat.reduceEqDiff, Nat.reduceLT, reduceCtorEq, Nat.reduceAdd, List.getElem?_cons_succ, List.getElem?_cons_zero, Option.map, if_true, if_false, beq_self_eq_true, List.length_cons, List.length_nil, List.cons_append, List.nil_append, List.append_nil, ite_self, Int.reduceBNe, Int.reduceBEq, Int.reduceLT, Int.reduceLE, heapFree, hid2, List.flatMap_nil, List.flatMap_cons, List.filter_nil, List.filter_cons, List.contains_cons, List.contains_nil, c3, o3_0, g3_0, o3_1, g3_1, o3_2, g3_2, o3_3, g3_3, o3_4, g3_4, o3_5, g3_5, o3_6, g3_6, o3_7a, o3_7b, g3_7, o3_8, g3_8, o3_9, g3_9, o3_11, g3_11, o3_12, g3_12, o3_14, g3_14, o3_13, g3_13, o3_15, g3_15, o3_10, g3_10, o3_16, g3_16, o3_17, g3_17, o3_19, g3_19, o3_18, g3_18, o3_20, g3_20, o3_21, g3_21, o3_23, g3_23, o3_22, g3_22, o3_24, g3_24, he, Heap.get_push, Heap.get_set, List.drop_zero, List.take_succ_cons, List.take_zero, List.take_nil, c3, a0, a1, a2, lfa, lfb, hHp, gp1, gp2, gr1]
  simp (maxDischargeDepth := 8) -implicitDefEqProofs only [sr1, kA, Q.ev, evQ, evP, evalO, resultsA, tupA, AV.rfL, callV, exists_eq', List.length_set, ne_eq, Nat.reduceEqDiff, Nat.reduceLT, reduceCtorEq, Nat.reduceAdd, List.getElem?_cons_succ, List.getElem?_cons_zero, Option.map, if_true, if_false, beq_self_eq_true, List.length_cons, List.length_nil, List.cons_append, List.nil_append, List.append_nil, ite_self, Int.reduceBNe, Int.reduceBEq, Int.reduceLT, Int.reduceLE, heapFree, hid2, List.flatMap_nil, List.flatMap_cons, List.filter_nil, List.filter_cons, List.contains_cons, List.contains_nil, c3, o3_0, g3_0, o3_1, g3_1, o3_2, g3_2, o3_3, g3_3, o3_4, g3_4, o3_5, g3_5, o3_6, g3_6, o3_7a, o3_7b, g3_7, o3_8, g3_8, o3_9, g3_9, o3_11, g3_11, o3_12, g3_12, o3_14, g3_14, o3_13, g3_13, o3_15, g3_15, o3_10, g3_10, o3_16, g3_16, o3_17, g3_17, o3_19, g3_19, o3_18, g3_18, o3_20, g3_20, o3_21, g3_21, o3_23, g3_23, o3_22, g3_22, o3_24, g3_24, he, Heap.get_push, Heap.get_set, List.drop_zero, List.take_succ_cons, List.take_zero, List.take_nil, c3, a0, a1, a2, lfa, lfb, hHp, gp1, gp2, gr2]
  cases d3 : decide ((300 : Int) < nm.size)
  case true =>
    simp (maxDischargeDepth := 8) -implicitDefEqProofs only [sr1, kA, Q.ev, evQ, evP, evalO, resultsA, tupA, AV.rfL, callV, exists_eq', List.length_set, ne_eq, Nat.reduceEqDiff, Nat.reduceLT, reduceCtorEq, Nat.reduceAdd, List.getElem?_cons_succ, List.getElem?_cons_zero, Option.map, if_true, if_false, beq_self_eq_true, List.length_cons, List.length_nil, List.cons_append, List.nil_append, List.append_nil, ite_self, Int.reduceBNe, Int.reduceBEq, Int.reduceLT, Int.reduceLE, heapFree, hid2, List.flatMap_nil, List.flatMap_cons, List.filter_nil, List.filter_cons, List.contains_cons, List.contains_nil, c3, o3_0, g3_0, o3_1, g3_1, o3_2, g3_2, o3_3, g3_3, o3_4, g3_4, o3_5, g3_5, o3_6, g3_6, o3_7a, o3_7b, g3_7, o3_8, g3_8, o3_9, g3_9, o3_11, g3_11, o3_12, g3_12, o3_14, g3_14, o3_13, g3_13, o3_15, g3_15, o3_10, g3_10, o3_16, g3_16, o3_17, g3_17, o3_19, g3_19, o3_18, g3_18, o3_20, g3_20, o3_21, g3_21, o3_23, g3_23, o3_22, g3_22, o3_24, g3_24, he, Heap.get_push, Heap.get_set, List.drop_zero, List.take_succ_cons, List.take_zero, List.take_nil, c3, a0, a1, a2, lfa, lfb, hHp, gp1, gp2, gr1]
  obtain ⟨ka1, ka2, ka3, ka4⟩ := k1 rfl
  have sa : Sm a := ⟨by omega, by omega, by omega⟩
  obtain ⟨v1, v2, v3, us, H3, t5, x3, o3⟩ := twin5_run a vs vy vr bs ha (by omega) (by omega) (by omega) (fun s hs => by have := ka4 s hs; omega) H.next Hp (by omega)
  have n3 := x3.1
  obtain ⟨H4, s4, n4, g4, x4⟩ := o3.new (lo := H.next) (by omega)
  have x24 := x3.trans x4
  have ga4 : H4.get H.next = _ := (x24.2.1 _ (by omega)).trans gp1
  have gb4 : H4.get (H.next + 1) = _ := (x24.2.1 _ (by omega)).trans gp2
  have f1 := find_run _ a nm H4 (ha.rd H4) sa H.next (by omega)
  have f2 := find2_run _ a nm H4 (ha.rd H4) sa H.next (by omega)
  obtain ⟨fx, fy, hf⟩ := findV_tup a nm
  rw [hf] at f1 f2
  obtain ⟨w1, w2, w3, us', H5, t8, x5, o5⟩ := twin_run a vs vy vr bs ha (by omega) (by omega) (by omega) (fun s hs => by have := ka4 s hs; omega) H.next H4 (by omega)
  have n5 := x5.1
  obtain ⟨H6, s6, n6, g6, x6⟩ := o5.new (lo := H.next) (by omega)
  have x46 := x5.trans x6
  have ga6 : H6.get H.next = _ := (x46.2.1 _ (by omega)).trans ga4
  have gb6 : H6.get (H.next + 1) = _ := (x46.2.1 _ (by omega)).trans gb4
  have gw6 : H6.get H3.next = _ := (x46.2.1 _ (by omega)).trans g4
  have ck1 := check_run _ a H6 (ha.rd H6) sa H6.next (Nat.le_refl _)
  have ck2 := check2_run _ a H6 (ha.rd H6) sa H6.next (Nat.le_refl _)
  generalize (if checkB a = true then (0 : Int) else 8) = kk at ck1 ck2
  have sm1 := same_run _ _ a b H6 (ha.rd H6) (hb.rd H6) sa H6.next (Nat.le_refl _)
  have sm2 := same2_run _ _ a b H6 (ha.rd H6) (hb.rd H6) sa (fun s hs => by have := ka4 s hs; omega) H6.next (Nat.le_refl _)
  generalize decide (a = b) = dab at sm1 sm2
  have oc6 := o5.ext x6
  have sm3 := same2_run _ _ a a H6 (ha.rd H6) oc6.rd sa (fun s hs => by have := ka4 s hs; omega) H.next (by omega)
  have daa : decide (a = a) = true := decide_eq_true rfl
  rw [daa] at sm3
  have eqb : binA Try.prog .eql 4 (.bool dab) (.bool dab) = some (.bool true) := by cases dab <;> rfl
  simp (maxDischargeDepth := 8) -implicitDefEqProofs only [sr1, kA, Q.ev, evQ, evP, evalO, resultsA, tupA, AV.rfL, callV, exists_eq', List.length_set, ne_eq, Nat.reduceEqDiff, Nat.reduceLT, reduceCtorEq, Nat.reduceAdd, List.getElem?_cons_succ, List.getElem?_cons_zero, Option.map, if_true, if_false, beq_self_eq_true, List.length_cons, List.length_nil, List.cons_append, List.nil_append, List.append_nil, ite_self, Int.reduceBNe, Int.reduceBEq, Int.reduceLT, Int.reduceLE, heapFree, hid2, List.flatMap_nil, List.flatMap_cons, List.filter_nil, List.filter_cons, List.contains_cons, List.contains_nil, c3, o3_0, g3_0, o3_1, g3_1, o3_2, g3_2, o3_3, g3_3, o3_4, g3_4, o3_5, g3_5, o3_6, g3_6, o3_7a, o3_7b, g3_7, o3_8, g3_8, o3_9, g3_9, o3_11, g3_11, o3_12, g3_12, o3_14, g3_14, o3_13, g3_13, o3_15, g3_15, o3_10, g3_10, o3_16, g3_16, o3_17, g3_17, o3_19, g3_19, o3_18, g3_18, o3_20, g3_20, o3_21, g3_21, o3_23, g3_23, o3_22, g3_22, o3_24, g3_24, he, Heap.get_push, Heap.get_set, List.drop_zero, List.take_succ_cons, List.take_zero, List.take_nil, c3, a0, a1, a2, lfa, lfb, hHp, gp1, gp2, gr1, t5, s4, ga4, gb4, f1, f2, t8, s6, ga6, gb6, g6, gw6, ck1, ck2, sm1, sm2, sm3, eqb]
  have hC := oc6.cp (G := H4) (b := H5.next) (Nat.le_refl _) x46 (by omega) g6 ka4
  generalize hr : om Try.prog _ _ c3_l0 _ = r
  obtain ⟨x, e1, H7, rfl, rfl, hC7, he1, p3, p7, p13, p12⟩ := rn_of hr (law_l0 H4 H5.next a.secs.length H.next a.machine w1 w2 w3 a.syms.length a.rels.length (.ptr H.next 0) (.ptr H3.next 0) (.bool true) (by omega) (by omega) 0 _ _ (Nat.zero_le _) ⟨hC, by simp only [gd_eq, gd_ne, ne_eq, not_false_eq_true, Nat.reduceEqDiff, Nat.reduceLT, List.length_set, reduceCtorEq, he], by simp only [gd_eq, gd_ne, ne_eq, not_false_eq_true, Nat.reduceEqDiff, Nat.reduceLT, List.length_set, reduceCtorEq, he], by simp only [gd_eq, gd_ne, ne_eq, not_false_eq_true, Nat.reduceEqDiff, Nat.reduceLT, List.length_set, reduceCtorEq, he], by simp only [gd_eq, gd_ne, ne_eq, not_false_eq_true, Nat.reduceEqDiff, Nat.reduceLT, List.length_set, reduceCtorEq, he], by simp only [gd_eq, gd_ne, ne_eq, not_false_eq_true, Nat.reduceEqDiff, Nat.reduceLT, List.length_set, reduceCtorEq, he], by simp only [gd_eq, gd_ne, ne_eq, not_false_eq_true, Nat.reduceEqDiff, Nat.reduceLT, List.length_set, reduceCtorEq, he]; rfl⟩)
  clear hr
  simp (maxDischargeDepth := 8) -implicitDefEqProofs only [sr1, kA, Q.ev, evQ, evP, evalO, resultsA, tupA, AV.rfL, callV, exists_eq', List.length_set, ne_eq, Nat.reduceEqDiff, Nat.reduceLT, reduceCtorEq, Nat.reduceAdd, List.getElem?_cons_succ, List.getElem?_cons_zero, Option.map, if_true, if_false, beq_self_eq_true, List.length_cons, List.length_nil, List.cons_append, List.nil_append, List.append_nil, ite_self, Int.reduceBNe, Int.reduceBEq, Int.reduceLT, Int.reduceLE, heapFree, hid2, List.flatMap_nil, List.flatMap_cons, List.filter_nil, List.filter_cons, List.contains_cons, List.contains_nil, c3, o3_0, g3_0, o3_1, g3_1, o3_2, g3_2, o3_3, g3_3, o3_4, g3_4, o3_5, g3_5, o3_6, g3_6, o3_7a, o3_7b, g3_7, o3_8, g3_8, o3_9, g3_9, o3_11, g3_11, o3_12, g3_12, o3_14, g3_14, o3_13, g3_13, o3_15, g3_15, o3_10, g3_10, o3_16, g3_16, o3_17, g3_17, o3_19, g3_19, o3_18, g3_18, o3_20, g3_20, o3_21, g3_21, o3_23, g3_23, o3_22, g3_22, o3_24, g3_24, he, Heap.get_push, Heap.get_set, List.drop_zero, List.take_succ_cons, List.take_zero, List.take_nil, he1, p3, p7, p13, p12]
  generalize hr : om Try.prog _ _ c3_l2 _ = r
  obtain ⟨x, e2, H8, rfl, rfl, hC8, he2, q3, q7, q13, q12⟩ := rn_of hr (law_l2 H4 H5.next a.syms.length H.next a.machine w1 w2 w3 a.secs.length a.rels.length (.ptr H.next 0) (.ptr H3.next 0) (.bool true) (by omega) (by omega) 0 _ _ (Nat.zero_le _) ⟨hC7, by simp only [gd_eq, gd_ne, ne_eq, not_false_eq_true, Nat.reduceEqDiff, Nat.reduceLT, List.length_set, reduceCtorEq, he, he1], by simp only [gd_eq, gd_ne, ne_eq, not_false_eq_true, Nat.reduceEqDiff, Nat.reduceLT, List.length_set, reduceCtorEq, he, p3], by simp only [gd_eq, gd_ne, ne_eq, not_false_eq_true, Nat.reduceEqDiff, Nat.reduceLT, List.length_set, reduceCtorEq, he, p7], by simp only [gd_eq, gd_ne, ne_eq, not_false_eq_true, Nat.reduceEqDiff, Nat.reduceLT, List.length_set, reduceCtorEq, he, p13], by simp only [gd_eq, gd_ne, ne_eq, not_false_eq_true, Nat.reduceEqDiff, Nat.reduceLT, List.length_set, reduceCtorEq, he, p12], by simp only [gd_eq, gd_ne, ne_eq, not_false_eq_true, Nat.reduceEqDiff, Nat.reduceLT, List.length_set, reduceCtorEq, he, he1]; rfl⟩)
  clear hr
  simp (maxDischargeDepth := 8) -implicitDefEqProofs only [sr1, kA, Q.ev, evQ, evP, evalO, resultsA, tupA, AV.rfL, callV, exists_eq', List.length_set, ne_eq, Nat.reduceEqDiff, Nat.reduceLT, reduceCtorEq, Nat.reduceAdd, List.getElem?_cons_succ, List.getElem?_cons_zero, Option.map, if_true, if_false, beq_self_eq_true, List.length_cons, List.length_nil, List.cons_append, List.nil_append, List.append_nil, ite_self, Int.reduceBNe, Int.reduceBEq, Int.reduceLT, Int.reduceLE, heapFree, hid2, List.flatMap_nil, List.flatMap_cons, List.filter_nil, List.filter_cons, List.contains_cons, List.contains_nil, c3, o3_0, g3_0, o3_1, g3_1, o3_2, g3_2, o3_3, g3_3, o3_4, g3_4, o3_5, g3_5, o3_6, g3_6, o3_7a, o3_7b, g3_7, o3_8, g3_8, o3_9, g3_9, o3_11, g3_11, o3_12, g3_12, o3_14, g3_14, o3_13, g3_13, o3_15, g3_15, o3_10, g3_10, o3_16, g3_16, o3_17, g3_17, o3_19, g3_19, o3_18, g3_18, o3_20, g3_20, o3_21, g3_21, o3_23, g3_23, o3_22, g3_22, o3_24, g3_24, he, Heap.get_push, Heap.get_set, List.drop_zero, List.take_succ_cons, List.take_zero, List.take_nil, he2, q3, q7, q13, q12]
  generalize hr : om Try.prog _ _ c3_l3 _ = r
  obtain ⟨x, e3, H9, rfl, rfl, hC9, he3, r3, r7, r13⟩ := rn_of hr (law_l3 H4 H5.next a.rels.length H.next a.machine w1 w2 w3 a.secs.length a.syms.length (.ptr H.next 0) (.ptr H3.next 0) (.bool true) (by omega) (by omega) 0 _ _ (Nat.zero_le _) ⟨hC8, by simp only [gd_eq, gd_ne, ne_eq, not_false_eq_true, Nat.reduceEqDiff, Nat.reduceLT, List.length_set, reduceCtorEq, he, he2], by simp only [gd_eq, gd_ne, ne_eq, not_false_eq_true, Nat.reduceEqDiff, Nat.reduceLT, List.length_set, reduceCtorEq, he, q3], by simp only [gd_eq, gd_ne, ne_eq, not_false_eq_true, Nat.reduceEqDiff, Nat.reduceLT, List.length_set, reduceCtorEq, he, q7], by simp only [gd_eq, gd_ne, ne_eq, not_false_eq_true, Nat.reduceEqDiff, Nat.reduceLT, List.length_set, reduceCtorEq, he, q13], by simp only [gd_eq, gd_ne, ne_eq, not_false_eq_true, Nat.reduceEqDiff, Nat.reduceLT, List.length_set, reduceCtorEq, he, q12], by simp only [gd_eq, gd_ne, ne_eq, not_false_eq_true, Nat.reduceEqDiff, Nat.reduceLT, List.length_set, reduceCtorEq, he, he2]; rfl⟩)
  clear hr
  have x9 := hC9.ext
  have n9 := x9.1
  have ga9 : H9.get H.next = _ := (x9.2.1 _ (by omega)).trans ga4
  have gw9 : H9.get H3.next = _ := (x9.2.1 _ (by omega)).trans g4
  have sm9 := same2_run _ _ a a H9 (ha.rd H9) ((o3.ext x4).ext x9).rd sa (fun s hs => by have := ka4 s hs; omega) H.next (by omega)
  rw [daa] at sm9
  simp (maxDischargeDepth := 8) -implicitDefEqProofs only [sr1, kA, Q.ev, evQ, evP, evalO, resultsA, tupA, AV.rfL, callV, exists_eq', List.length_set, ne_eq, Nat.reduceEqDiff, Nat.reduceLT, reduceCtorEq, Nat.reduceAdd, List.getElem?_cons_succ, List.getElem?_cons_zero, Option.map, if_true, if_false, beq_self_eq_true, List.length_cons, List.length_nil, List.cons_append, List.nil_append, List.append_nil, ite_self, Int.reduceBNe, Int.reduceBEq, Int.reduceLT, Int.reduceLE, heapFree, hid2, List.flatMap_nil, List.flatMap_cons, List.filter_nil, List.filter_cons, List.contains_cons, List.contains_nil, c3, o3_0, g3_0, o3_1, g3_1, o3_2, g3_2, o3_3, g3_3, o3_4, g3_4, o3_5, g3_5, o3_6, g3_6, o3_7a, o3_7b, g3_7, o3_8, g3_8, o3_9, g3_9, o3_11, g3_11, o3_12, g3_12, o3_14, g3_14, o3_13, g3_13, o3_15, g3_15, o3_10, g3_10, o3_16, g3_16, o3_17, g3_17, o3_19, g3_19, o3_18, g3_18, o3_20, g3_20, o3_21, g3_21, o3_23, g3_23, o3_22, g3_22, o3_24, g3_24, he, Heap.get_push, Heap.get_set, List.drop_zero, List.take_succ_cons, List.take_zero, List.take_nil, he3, r3, r7, r13, ga9, gw9, sm9]
end Go.Proofs.Ytejmfbeiejlgkaa.obj
/-! The Object laws, P20: an object that came in as an argument, as the interpreter takes it. Conditions: in each statement. -/
namespace Go.Proofs.Ytejmfbeiejlgkaa.obj
open Go Go.Ab
set_option maxRecDepth 100000
set_option linter.unusedSimpArgs false
set_option linter.unusedVariables false
theorem ag5t : isAggT Try.prog 5 = false := by kernel_rfl
theorem ag39t : isAggT Try.prog 39 = true := by kernel_rfl
theorem ag41t : isAggT Try.prog 41 = true := by kernel_rfl
theorem ag43t : isAggT Try.prog 43 = true := by kernel_rfl
theorem ag26t : isAggT Try.prog 26 = true := by kernel_rfl
theorem open_bytes {n : Nat} {l : List AV} (h : ∀ x ∈ l, ∃ c, x = ofCells Try.prog 5 c ∧ ShC Try.prog (n + 1) 5 c) : ∃ bs : List UInt8, l = bytV bs := by
  obtain ⟨ys, hy, _⟩ := choose_list (f := fun n : UInt8 => AV.int .u8 (n.toNat : Int)) (p := fun _ => True) l (fun x hx => by
    obtain ⟨c, rfl, hc⟩ := h x hx
    rw [ShC_succ, Try.underlying5] at hc
    obtain ⟨i, rfl, hw⟩ := hc
    have hi : 0 ≤ i ∧ i ≤ 255 := by simpa [Lit.wf, show IntKind.u8.min = 0 from rfl, show IntKind.u8.max = 255 from rfl] using hw
    refine ⟨UInt8.ofNat i.toNat, ?_, trivial⟩
    simp only [ofCells, ag5t, Bool.false_eq_true, if_false, List.headD_cons, UInt8.toNat_ofNat']
    congr 1
    have : (i.toNat % 2 ^ 8 : Nat) = i.toNat := Nat.mod_eq_of_lt (by omega)
    rw [this]
    omega)
  exact ⟨ys, hy⟩
theorem open_sl {n : Nat} {t e : TypeId} {c : List AV} {sz : Nat} (hu : Try.prog.underlying t = some (.slice e)) (hz : Try.prog.cellsOf e = sz) (h : ShC Try.prog (n + 1) t c) : ∃ a cap l, c = [.rsl a cap sz l] ∧ l.length ≤ maxLen ∧ (l ≠ [] → a.isSome = true) ∧ ∀ x ∈ l, ∃ c, x = ofCells Try.prog e c ∧ ShC Try.prog n e c := by
  rw [ShC_succ, hu] at h
  simp only [hz] at h
  exact h
theorem open_i64 {n : Nat} {c : List AV} (h : ShC Try.prog (n + 1) 3 c) : ∃ i, c = [.int .i64 i] := by
  rw [ShC_succ, Try.underlying3] at h
  obtain ⟨i, h, _⟩ := h
  exact ⟨i, h⟩
theorem open_u8 {n : Nat} {t : TypeId} (hu : Try.prog.underlying t = some (.int .u8)) {c : List AV} (h : ShC Try.prog (n + 1) t c) : ∃ i, c = [.int .u8 i] := by
  rw [ShC_succ, hu] at h
  obtain ⟨i, h, _⟩ := h
  exact ⟨i, h⟩
theorem open_str {n : Nat} {c : List AV} (h : ShC Try.prog (n + 1) 9 c) : ∃ i, c = [.str i] := by
  rw [ShC_succ, Try.underlying9] at h
  obtain ⟨i, h, _⟩ := h
  exact ⟨i, h⟩
theorem sv_rsl {H : Heap} {sz : Nat} {a : Option Addr} {cap : Nat} {l : List AV} (hl : ∀ x ∈ l, x.cells.length = sz) (ha : l ≠ [] → a.isSome = true) : Sv H sz (.rsl a cap sz l) l :=
  ⟨hl, .inl ⟨a, cap, sz, rfl, fun h => ⟨ha h, rfl⟩⟩⟩
theorem open_sec {n : Nat} {c : List AV} (h : ShC Try.prog (n + 3) 39 c) : ∃ (s : Sec) (b : AV), AV.agg c = secV s b ∧ b.rf = true ∧ ∀ H, SvB H b s.bytes := by
  simp only [ShC_succ _ (n + 2) 39, Try.underlying39, List.map_cons, List.map_nil, ShF] at h
  obtain ⟨_, _, rfl, h1, _, _, rfl, h2, _, _, rfl, h3, rfl⟩ := h
  obtain ⟨s, rfl⟩ := open_str h1
  obtain ⟨i, rfl⟩ := open_i64 h2
  obtain ⟨a, cap, l, rfl, q1, q2, q3⟩ := open_sl Try.underlying37 ce5 h3
  obtain ⟨bs, rfl⟩ := open_bytes q3
  exact ⟨⟨s, i, bs⟩, _, rfl, rfl, fun H => sv_rsl bytV_cells q2⟩
theorem open_sym {n : Nat} {c : List AV} (h : ShC Try.prog (n + 2) 41 c) : ∃ s : Sym, AV.agg c = symV s := by
  simp only [ShC_succ _ (n + 1) 41, Try.underlying41, List.map_cons, List.map_nil, ShF] at h
  obtain ⟨_, _, rfl, h1, _, _, rfl, h2, _, _, rfl, h3, rfl⟩ := h
  obtain ⟨s, rfl⟩ := open_str h1
  obtain ⟨i, rfl⟩ := open_i64 h2
  obtain ⟨j, rfl⟩ := open_i64 h3
  exact ⟨⟨s, i, j⟩, rfl⟩
theorem open_rel {n : Nat} {c : List AV} (h : ShC Try.prog (n + 2) 43 c) : ∃ s : Rel, AV.agg c = relV s := by
  simp only [ShC_succ _ (n + 1) 43, Try.underlying43, List.map_cons, List.map_nil, ShF] at h
  obtain ⟨_, _, rfl, h1, _, _, rfl, h2, _, _, rfl, h3, _, _, rfl, h4, _, _, rfl, h5, _, _, rfl, h6, _, _, rfl, h7, _, _, rfl, h8, rfl⟩ := h
  obtain ⟨i1, rfl⟩ := open_i64 h1
  obtain ⟨i2, rfl⟩ := open_i64 h2
  obtain ⟨i3, rfl⟩ := open_u8 (by kernel_rfl) h3
  obtain ⟨i4, rfl⟩ := open_i64 h4
  obtain ⟨i5, rfl⟩ := open_i64 h5
  obtain ⟨i6, rfl⟩ := open_i64 h6
  obtain ⟨i7, rfl⟩ := open_i64 h7
  obtain ⟨i8, rfl⟩ := open_i64 h8
  exact ⟨⟨i1, i2, i3, i4, i5, i6, i7, i8⟩, rfl⟩
theorem open_obj {n : Nat} {c : List AV} (h : ShC Try.prog (n + 5) 26 c) : ∃ (o : Obj) (vs vy vr : AV) (bs : List AV), c = [.str o.machine, vs, vy, vr] ∧ InO o vs vy vr bs := by
  simp only [ShC_succ _ (n + 4) 26, Try.underlying26, List.map_cons, List.map_nil, ShF] at h
  obtain ⟨_, _, rfl, h1, _, _, rfl, h2, _, _, rfl, h3, _, _, rfl, h4, rfl⟩ := h
  obtain ⟨m, rfl⟩ := open_str h1
  obtain ⟨a, ca, l, rfl, q1, q2, q3⟩ := open_sl Try.underlying22 ce39 h2
  obtain ⟨a', ca', l', rfl, r1, r2, r3⟩ := open_sl Try.underlying23 ce41 h3
  obtain ⟨a'', ca'', l'', rfl, s1, s2, s3⟩ := open_sl Try.underlying24 ce43 h4
  obtain ⟨ys, rfl, hy⟩ := choose_list (f := fun p : Sec × AV => secV p.1 p.2) (p := fun p => p.2.rf = true ∧ ∀ H, SvB H p.2 p.1.bytes) l (fun x hx => by
    obtain ⟨c, rfl, hc⟩ := q3 x hx
    obtain ⟨s, b, h1, h2, h3⟩ := open_sec hc
    refine ⟨(s, b), ?_, h2, h3⟩
    simp only [ofCells, ag39t, if_true, h1])
  obtain ⟨y2, rfl, _⟩ := choose_list (f := symV) (p := fun _ => True) l' (fun x hx => by
    obtain ⟨c, rfl, hc⟩ := r3 x hx
    obtain ⟨s, h1⟩ := open_sym hc
    refine ⟨s, ?_, trivial⟩
    simp only [ofCells, ag41t, if_true, h1])
  obtain ⟨y3, rfl, _⟩ := choose_list (f := relV) (p := fun _ => True) l'' (fun x hx => by
    obtain ⟨c, rfl, hc⟩ := s3 x hx
    obtain ⟨s, h1⟩ := open_rel hc
    refine ⟨s, ?_, trivial⟩
    simp only [ofCells, ag43t, if_true, h1])
  have hz : zipV (ys.map (·.1)) (ys.map (·.2)) = ys.map fun p => secV p.1 p.2 := by
    unfold zipV
    rw [List.zip_map', List.map_map]
    rfl
  refine ⟨⟨m, ys.map (·.1), y2, y3⟩, _, _, _, ys.map (·.2), rfl, { len := by simp, s := fun H => by rw [hz]; exact sv_rsl (by rw [← hz]; exact zipV_cells) q2, b := fun i hi => ?_, y := fun H => sv_rsl symV_cells r2, r := fun H => sv_rsl relV_cells s2, rs := rfl, ry := rfl, rr := rfl }⟩
  have hi' : i < ys.length := by simpa using hi
  have := hy ys[i] (List.getElem_mem hi')
  simp only [List.getElem_map]
  exact this
end Go.Proofs.Ytejmfbeiejlgkaa.obj
/-! What all rows of the Object laws lean on: from a run of the interpreter to a call of the program. Conditions: none. -/
namespace Go.Proofs.Ytejmfbeiejlgkaa.obj
open Go Go.Ab Go.RowKit
set_option linter.unusedVariables false
def namesB (P : Program) : Bool := P.funcs.toList.all fun f => !(f.name == "runtime.NumGoroutine")
theorem names_of {P : Program} (h : namesB P = true) : ∀ (f : Nat) (fn : Func), P.funcs[f]? = some fn → (fn.name == "runtime.NumGoroutine") = false := by
  intro f fn hf
  have := List.all_eq_true.1 h fn (List.mem_of_getElem? (by simpa using hf))
  simpa using this
theorem summOK : SummOK Try.prog := fun f args v h => by cases h
theorem names : Names Try.prog := ⟨names_of (by kernel_rfl), summOK⟩
theorem mixed : Try.prog.follows .mixedOrders = true := by kernel_rfl
theorem own : ownKnob Try.prog.godebug = none := by kernel_rfl
theorem globOK (w : World) : GlobOK w w.heap.size := fun g v h => by cases h
/-- the numbering that nothing needs -/
def i0 : Inj := fun _ => (0, 0)
theorem walk_of {f : FuncId} {args : List AV} {vs : Array Value} {H : Heap} (h : callA Try.prog (om Try.prog) 0 f args Heap.empty = some (.bool true, H)) (W : World) (hargs : ∀ a ∈ args, a.OK W W.heap.size 0)
    (hv : (args.map (AV.conc i0)).toArray = vs) : Calls Try.prog f vs W fun e w' => e = .returned (.bool true) ∧ Below W.heap.size W w' := by
  obtain ⟨n, hn⟩ := callA_depth h
  subst hv
  exact (run_sound names mixed hn W (globOK W) hargs i0).mono fun e w' ⟨⟨ι, he⟩, hb⟩ => ⟨he, hb⟩
end Go.Proofs.Ytejmfbeiejlgkaa.obj
