/- What the law's proof leans on, part 49. Conditions: in each statement. -/
import Derived.Test.YtibehelnfbcnjaaGreatDoorQX1
set_option linter.all false
namespace Go.Ab
open Go Go.RowKit
set_option linter.unusedSimpArgs false
set_option linter.unusedVariables false
def yaeu (P : Program) (ts : List TypeId) : Bool := ts.all fun t => match P.underlying t with
  | some (.int _) | some .bool | some .string => true
  | some (.struct fs) => zgv P fs.toList 0 (P.cellsOf t) && fs.toList.all fun f => ts.contains f.type
  | some (.slice e) => decide (0 < P.cellsOf e) && decide (0 < P.bytesOf e) && (zg9 P e || decide (P.cellsOf e = 1)) && ts.contains e
  | _ => false
section
variable {H : Type} {enc : TypeId × Value → H} {P : Program} {W : World}
theorem ziy {e : TypeId} : ∀ {l : List (DataW H)} {d : DataW H} {k : Nat}, d ∈ l → k ∈ d.weights P e → k ∈ DataW.weightsAll P e l
  | x :: l, d, k, h, hk => by
    simp only [DataW.weightsAll, List.mem_append]
    rcases List.mem_cons.1 h with rfl | h
    · exact .inl hk
    · exact .inr (ziy h hk)
theorem zfe {ts : List TypeId} (hts : yaeu P ts = true) : ∀ (n : Nat) (t : TypeId) (cs : List Value) (x : DataW H × List MemPlace), ts.contains t = true → DataW.trod enc P W 0 (fun _ => true) true n t cs = some x → (∀ k ∈ x.1.weights P t, k ≤ reachBytes) →
    ∃ vs, (∀ ι, AV.concL ι vs = cs) ∧ AV.OKL W W.heap.size 0 vs ∧ ShC P n t vs
  | 0, t, cs, x, hc, h, _ => by simp [DataW.trod] at h
  | n + 1, t, cs, x, hc, h, hw => by
    have hp : (match P.underlying t with | some (.int _) | some .bool | some .string => true | some (.struct fs) => zgv P fs.toList 0 (P.cellsOf t) && fs.toList.all fun f => ts.contains f.type | some (.slice e) => decide (0 < P.cellsOf e) && decide (0 < P.bytesOf e) && (zg9 P e || decide (P.cellsOf e = 1)) && ts.contains e | _ => false) = true := List.all_eq_true.1 hts t (by simpa using hc)
    simp only [zht]
    split at hp
    · rename_i k hu
      simp only [hu]
      obtain ⟨i, rfl, _, hwf⟩ := DataW.trod_int hu h
      exact ⟨[.int k i], fun ι => rfl, by simp [AV.OKL, AV.OK], i, rfl, hwf⟩
    · rename_i hu
      simp only [hu]
      obtain ⟨b, rfl, _⟩ := DataW.trod_bool hu h
      exact ⟨[.bool b], fun ι => rfl, by simp [AV.OKL, AV.OK], b, rfl⟩
    · rename_i hu
      simp only [hu]
      obtain ⟨s, rfl, rfl, _⟩ := DataW.trod_string hu h
      have hs : s.size ≤ reachBytes := by
        have := hw s.data.toList.length (by simp only [DataW.weights, List.mem_singleton])
        rw [Array.length_toList] at this; exact this
      exact ⟨[.str s], fun ι => rfl, by simp [AV.OKL, AV.OK], s, rfl, hs⟩
    · rename_i fs hu
      simp only [hu]
      simp only [Bool.and_eq_true, List.all_eq_true] at hp
      obtain ⟨xs, m', hm', hx1, hl, hxl, hfs⟩ := DataW.trod_struct hu h
      subst hx1
      obtain rfl : n = m' := by omega
      obtain ⟨vs, h1, h2, h3⟩ := zny (S := ShC P n) hl (AV.OKL W W.heap.size 0) (by simp [AV.OKL]) (fun a b ha hb => by rw [zar] at *; intro v hv; exact (List.mem_append.1 hv).elim (ha v) (hb v)) fs.toList 0 hp.1 (by omega) (fun f hf => by
        obtain ⟨i, hi⟩ := List.getElem?_of_mem hf
        have hi' : fs[i]? = some f := by simpa using hi
        have hlt : i < xs.length := by
          rw [hxl]
          by_cases e : i < fs.size
          · exact e
          · rw [Array.getElem?_eq_none (by omega)] at hi'; cases hi'
        have e := hfs i f hi'
        rw [List.getElem?_eq_getElem hlt] at e
        exact zfe hts n f.type _ _ (hp.2 f hf) e (fun k hk => hw k (by
          simp only [DataW.weights, hu]
          exact DataW.weights_mem_each (j := i) (t := f.type) (d := xs[i].1) (by simp [hi']) (by simp [List.getElem?_eq_getElem hlt]) k hk)))
      exact ⟨vs, fun ι => by rw [h1]; rfl, h2, h3⟩
    · rename_i e hu
      simp only [hu]
      simp only [Bool.and_eq_true, decide_eq_true_eq, Bool.or_eq_true] at hp
      obtain ⟨⟨⟨hz, hby⟩, hag⟩, hpe⟩ := hp
      rcases DataW.trod_slice hu h with ⟨rfl, _⟩ | ⟨a, len, cap, elems, rest, m', hm', rfl, hx1, hb, hl, hm, hlen, hel, _, _⟩
      · exact ⟨[.rsl none 0 (P.cellsOf e) []], fun ι => rfl, by simp [AV.OKL, AV.OK], none, 0, [], rfl, by simp, by simp, by simp⟩
      · obtain rfl : n = m' := by omega
        subst hx1
        have hln : len ≤ reachBytes := by
          have := hw (((elems.map (·.1)).length + (rest.map (·.1)).length) * P.bytesOf e) (by simp only [DataW.weights, hu]; simp)
          simp only [List.length_map] at this
          have h2 : (elems.length + rest.length) * 1 ≤ (elems.length + rest.length) * P.bytesOf e := Nat.mul_le_mul_left _ hby
          omega
        have each : ∀ i, i < len → ∃ c : List AV, ShC P n e c ∧ AV.OKL W W.heap.size 0 c ∧ c.length = P.cellsOf e ∧ a.block < W.heap.size ∧ ∀ ι j x, c[j]? = some x → W.cell? ((a.add (i * P.cellsOf e)).add j) = some (x.conc ι) := by
          intro i hi
          have he := hel i hi
          rw [List.getElem?_eq_getElem (by omega), Option.bind_eq_some_iff] at he
          obtain ⟨cs', hc1, hc2⟩ := he
          obtain ⟨c1, c2, c3⟩ := World.cells?_some hc1
          obtain ⟨vs, v1, v2, v3⟩ := zfe hts n e _ _ hpe hc2 (fun k hk => hw k (by
            simp only [DataW.weights, hu, List.mem_cons, List.mem_append]
            exact .inr (.inl (ziy (d := elems[i].1) (List.mem_map_of_mem (List.getElem_mem _)) hk))))
          have hvl : vs.length = P.cellsOf e := by rw [← zss (fun _ => (0, 0)) vs, v1, c2]
          refine ⟨vs, v3, v2, hvl, ?_, fun ι j x hx => ?_⟩
          · have d := c3 0 (by omega)
            rw [List.getElem?_eq_getElem (by omega)] at d
            have := zxm d
            rwa [zcg, zcg] at this
          · have hj : j < vs.length := (List.getElem?_eq_some_iff.1 hx).1
            rw [c3 j (by omega), ← v1 ι]
            exact zqr ι vs j x hx
        obtain ⟨l, hll, hle⟩ := yaki len each
        refine ⟨[.rsl (some a) cap (P.cellsOf e) (l.map (zay P e))], fun ι => by simp [AV.concL, AV.conc, hll], ?_, some a, cap, _, rfl, by simp; omega, fun _ => rfl, fun x hx => ?_⟩
        · simp only [AV.OKL, AV.OK, and_true]
          refine ⟨by simp; omega, fun ι i x hx => ?_, ?_⟩
          · rw [List.getElem?_map] at hx
            cases hp : l[i]? with
            | none => rw [hp] at hx; simp at hx
            | some c =>
              rw [hp] at hx
              simp at hx
              subst hx
              obtain ⟨q1, q2, q3, q4, q5⟩ := hle i c hp
              rw [zrg hag c q3 q1]
              exact ⟨q4, q3, fun j y hy => q5 ι j y hy⟩
          · rw [zar]
            intro v hv
            obtain ⟨c, hc, rfl⟩ := List.mem_map.1 hv
            obtain ⟨i, hi⟩ := List.getElem?_of_mem hc
            obtain ⟨q1, q2, q3, q4, q5⟩ := hle i c hi
            exact zzz hag c q3 q1 q2
        · obtain ⟨c, hc, rfl⟩ := List.mem_map.1 hx
          obtain ⟨i, hi⟩ := List.getElem?_of_mem hc
          exact ⟨c, rfl, (hle i c hi).1⟩
    · cases hp
theorem zmn {r : Go.Reach} {b0 : Nat} {ts : List TypeId} {t : TypeId} {v : Value} {d : DataW H} {ps : List MemPlace} (hts : yaeu P ts = true) (hc : ts.contains t = true) (hval : Value.okWide P W r b0 t v) (h : DataW.Trod enc P W 0 (fun _ => true) true t v d ps) (hw : ∀ k ∈ d.weights P t, k ≤ reachBytes) :
    ∃ n c, (∀ ι, (zay P t c).conc ι = v) ∧ (zay P t c).OK W W.heap.size 0 ∧ ShC P n t c := by
  obtain ⟨m, hm⟩ := h
  obtain ⟨vs, h1, h2, h3⟩ := zfe hts m t _ _ hc hm hw
  have hp := List.all_eq_true.1 hts t (by simpa using hc)
  refine ⟨m, ?_⟩
  refine ⟨vs, fun ι => ?_, ?_, h3⟩
  · cases m with
    | zero => exact h3.elim
    | succ n =>
      have h1 := h1 ι
      unfold zay zg9
      split at hp
      · rename_i k hu
        obtain ⟨i, rfl⟩ := WideShapes.okWide_int hu hval
        rw [hu]
        match vs, h1 with
        | [y], h1 => simpa [AV.concL, Value.cells] using h1
        | [], h1 => simp [AV.concL, Value.cells] at h1
        | _ :: _ :: _, h1 => simp [AV.concL, Value.cells] at h1
      · rename_i hu
        obtain ⟨i, rfl⟩ := WideShapes.okWide_bool hu hval
        rw [hu]
        match vs, h1 with
        | [y], h1 => simpa [AV.concL, Value.cells] using h1
        | [], h1 => simp [AV.concL, Value.cells] at h1
        | _ :: _ :: _, h1 => simp [AV.concL, Value.cells] at h1
      · rename_i hu
        obtain ⟨i, rfl⟩ := WideShapes.okWide_string hu hval
        rw [hu]
        match vs, h1 with
        | [y], h1 => simpa [AV.concL, Value.cells] using h1
        | [], h1 => simp [AV.concL, Value.cells] at h1
        | _ :: _ :: _, h1 => simp [AV.concL, Value.cells] at h1
      · rename_i fs hu
        obtain ⟨cs, rfl, _⟩ := WideShapes.okWide_struct hu hval
        rw [hu]
        simp only [if_true, AV.conc, h1, Value.cells, Array.toArray_toList]
      · rename_i e hu
        obtain ⟨a, l, c, rfl⟩ := WideShapes.okWide_slice hu hval
        rw [hu]
        match vs, h1 with
        | [y], h1 => simpa [AV.concL, Value.cells] using h1
        | [], h1 => simp [AV.concL, Value.cells] at h1
        | _ :: _ :: _, h1 => simp [AV.concL, Value.cells] at h1
      · cases hp
  · unfold zay
    split
    · simpa [AV.OK] using h2
    · match vs, h2 with
      | [], _ => simp [undefA, AV.OK, AV.OKL]
      | y :: _, h2 => exact h2.1
end
end Go.Ab
