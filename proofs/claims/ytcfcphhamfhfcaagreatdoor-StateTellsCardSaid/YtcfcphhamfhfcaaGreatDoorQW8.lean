/- What the law's proof leans on, part 34. Conditions: in each statement. -/
import Derived.Test.YtcfcphhamfhfcaaGreatDoorQW7
set_option linter.all false
set_option linter.unusedSimpArgs false
set_option linter.unusedVariables false
namespace Go.Ab
open Go Go.RowKit
section
variable {P : Program} {w0 : World} {base lo : Nat} {ι ι1 ι2 : Inj} {H H1 H2 : Heap} {w w1 w2 : World}
theorem zoh [E : Env] {t : TypeId} {x v : AV} {i : Nat} (h : zjw P t x i = some v) (hok : x.OK w0 base H.next) :
    (Instr.fieldAt t (x.conc ι) i).run P w = .ok (v.conc ι) w ∧ v.OK w0 base H.next := by
  unfold zjw at h
  cases hu : P.underlying t with
  | none => simp [hu] at h
  | some d =>
    cases d <;> simp only [hu] at h <;> try (cases h; done)
    rename_i fs
    cases hf : fs[i]? with
    | none => simp [hf] at h
    | some f =>
      cases hs : zbl P f.type with
      | none => simp [hf, hs] at h
      | some s =>
        simp only [hf, hs] at h
        split at h
        · cases h
        · rename_i hs0
          have hrun : ∀ a : Addr, (Instr.fieldAt t (.pointer (some a)) i).run P w = .ok (.pointer (some (a.add f.offset))) w := fun a => by
            simp [Instr.fieldAt, run_underlying hu, hf, Instr.sureAddr, fieldPlace, zbh hs, hs0]
          cases x <;> simp only [] at h <;> try (cases h; done)
          · cases h
            refine ⟨?_, hok⟩
            simp only [AV.conc]; rw [hrun, zel]
          · rename_i a cs
            cases h
            refine ⟨by simp only [AV.conc]; rw [hrun], ?_⟩
            simp only [AV.OK] at hok ⊢
            refine ⟨by rw [zdd]; exact hok.1, fun ι j c hj => ?_, (zaz ..).2 fun c hc => (zaz ..).1 hok.2.2 c (List.mem_of_mem_drop hc)⟩
            rw [List.getElem?_drop] at hj
            rw [zop a]
            exact hok.2.1 ι _ c hj
theorem zqr [E : Env] {t : TypeId} {cs : List AV} {off : Nat} {v : AV} (h : yadm P t cs off = some v) (hok : ∀ c ∈ cs, c.OK w0 base H.next) :
    (part t (cs.map (AV.conc ι)).toArray off).run P w = .ok (v.conc ι) w ∧ v.OK w0 base H.next := by
  unfold yadm at h
  cases hA : zd8 P t with
  | none => simp [hA] at h
  | some b =>
    cases b with
    | true =>
      cases hs : zbl P t with
      | none => simp [hA, hs] at h
      | some n =>
        simp only [hA, hs] at h
        cases h
        constructor
        · simp only [part, Sem.run_bind, zg9 hA, Result.andThen_ok, if_true, zbh hs, Sem.run_pure, AV.conc, zbf]
          congr 2
          simp [List.map_take, List.map_drop, List.extract_eq_take_drop]
        · simp only [AV.OK]
          exact (zaz ..).2 fun c hc => hok c (List.mem_of_mem_drop (List.mem_of_mem_take hc))
    | false =>
      simp only [hA] at h
      refine ⟨?_, hok v (List.mem_of_getElem? h)⟩
      simp [part, zg9 hA, h]
theorem zvy [E : Env] {t : TypeId} {x v : AV} {i : Nat} (h : yaab P t x i = some v) (hok : x.OK w0 base H.next) :
    (Instr.field t (x.conc ι) i).run P w = .ok (v.conc ι) w ∧ v.OK w0 base H.next := by
  unfold yaab at h
  split at h
  · rename_i fs cs hu
    split at h
    · rename_i f hf
      simp only [AV.OK] at hok
      have := zqr (ι := ι) (w := w) h ((zaz ..).1 hok)
      refine ⟨?_, this.2⟩
      simp only [Instr.field, Sem.run_bind, run_underlying hu, Result.andThen_ok, hf, AV.conc, asAgg, pure_bind, zbf]
      simpa using this.1
    · cases h
  · cases h
theorem zoi [E : Env] {t : TypeId} {x ix v : AV} (h : zce P t x ix = some v) (hok : x.OK w0 base H.next) :
    (Instr.indexAt t (x.conc ι) (ix.conc ι)).run P w = .ok (v.conc ι) w ∧ v.OK w0 base H.next := by
  unfold zce at h
  split at h
  · rename_i e a cap sz l k i hu
    split at h
    · rename_i s hs
      split at h
      · rename_i hc
        simp only [Bool.and_eq_true, decide_eq_true_eq] at hc
        split at h
        · rename_i y hy
          cases h
          have hlt : i.toNat < l.length := (List.getElem?_eq_some_iff.1 hy).1
          have hi : 0 ≤ i ∧ i < (l.length : Int) := ⟨hc.2, by omega⟩
          constructor
          · simp [Instr.indexAt, AV.conc, asIntOf, run_underlying hu, hi, zbh hs]
          · simp only [AV.OK] at hok ⊢
            obtain ⟨hb, hsz, _⟩ := hok.2.1 (fun _ => (0, 0)) i.toNat y hy
            refine ⟨by rw [zdd]; exact hb, fun ι j c hj => ?_, (zaz ..).2 fun c hc' => ze5 ((zaz ..).1 hok.2.2 y (List.mem_of_getElem? hy)) c hc'⟩
            rw [hc.1]
            exact (hok.2.1 ι i.toNat y hy).2.2 j c hj
        · cases h
      · cases h
    · cases h
  · rename_i e b j n sz k i hu
    split at h
    · rename_i s hs
      split at h
      · rename_i hc
        simp only [Bool.and_eq_true, decide_eq_true_eq] at hc
        cases h
        have hi : 0 ≤ i ∧ i < (n : Int) := ⟨hc.1.2, hc.2⟩
        refine ⟨?_, by simpa [AV.OK] using hok⟩
        simp [Instr.indexAt, AV.conc, asIntOf, run_underlying hu, hi, zbh hs, zel, hc.1.1]
      · cases h
    · cases h
  · rename_i n e b o k i hu
    split at h
    · rename_i s hs
      split at h
      · rename_i hc
        simp only [Bool.and_eq_true, decide_eq_true_eq] at hc
        cases h
        have hi : 0 ≤ i ∧ i < (n : Int) := hc
        refine ⟨?_, by simpa [AV.OK] using hok⟩
        simp [Instr.indexAt, AV.conc, asIntOf, run_underlying hu, hi, zbh hs, zel, Instr.sureAddr]
      · cases h
    · cases h
  · rename_i n e a cs k i hu
    split at h
    · rename_i s hs
      split at h
      · rename_i hc
        simp only [Bool.and_eq_true, decide_eq_true_eq] at hc
        cases h
        have hi : 0 ≤ i ∧ i < (n : Int) := hc
        refine ⟨by simp [Instr.indexAt, AV.conc, asIntOf, run_underlying hu, hi, zbh hs, Instr.sureAddr], ?_⟩
        simp only [AV.OK] at hok ⊢
        refine ⟨by rw [zdd]; exact hok.1, fun ι j c hj => ?_, (zaz ..).2 fun c hc => (zaz ..).1 hok.2.2 c (List.mem_of_mem_drop hc)⟩
        rw [List.getElem?_drop] at hj
        rw [zop a]
        exact hok.2.1 ι _ c hj
      · cases h
    · cases h
  · cases h
theorem zwa [E : Env] {t : TypeId} {x ix v : AV} (h : zv9 P t x ix = some v) (hok : x.OK w0 base H.next) :
    (Instr.index t (x.conc ι) (ix.conc ι)).run P w = .ok (v.conc ι) w ∧ v.OK w0 base H.next := by
  unfold zv9 at h
  split at h
  · rename_i s k i hu
    split at h
    · rename_i hi
      split at h
      · rename_i b hb
        cases h
        have hb' : s[i.toNat]? = some b := by
          have : i.toNat < s.size := by
            have := (List.getElem?_eq_some_iff.1 hb).1
            simpa using this
          rw [getElem?_pos s i.toNat this]
          have h2 := hb
          rw [List.getElem?_eq_getElem (by simpa using this)] at h2
          simpa [ByteArray.getElem_eq_getElem_data] using h2
        exact ⟨by simp [Instr.index, AV.conc, asIntOf, run_underlying hu, hi, hb'], trivial⟩
      · cases h
    · cases h
  · rename_i n e cs k i hu
    split at h
    · rename_i s hs
      split at h
      · rename_i hc
        simp only [Bool.and_eq_true, decide_eq_true_eq] at hc
        simp only [AV.OK] at hok
        have := zqr (ι := ι) (w := w) h ((zaz ..).1 hok)
        refine ⟨?_, this.2⟩
        have hc' : 0 ≤ i ∧ i < (n : Int) := hc
        simp [Instr.index, AV.conc, asIntOf, run_underlying hu, hc', zbh hs, zbf]
        simpa using this.1
      · cases h
    · cases h
  · cases h
theorem zyh [E : Env] (s : Sim P w0 base ι H w) {t : Option TypeId} {x : AV} {n : Nat} (h : zyg P H t x = some n) (ats : Array TypeId) (hat : ats[0]? = t) (ty : TypeId) :
    (Builtin.len_ ats ty #[x.conc ι]).run P w = .ok (.int .i64 n) w := by
  cases t with
  | none => simp [zyg] at h
  | some t =>
    unfold zyg at h
    simp only [Option.bind_some] at h
    cases hu : P.underlying t with
    | none => simp [hu] at h
    | some d =>
      cases d <;> cases x <;> simp only [hu] at h <;> try (cases h; done)
      · cases h; simp [Builtin.len_, hat, run_underlying hu, AV.conc, goInt]
      · cases h; simp [Builtin.len_, hat, run_underlying hu, AV.conc, goInt]
      · cases h; simp [Builtin.len_, hat, run_underlying hu, AV.conc, goInt]
      · rename_i b
        cases b with
        | none => cases h; simp [Builtin.len_, hat, run_underlying hu, AV.conc, goInt]
        | some b =>
          simp only [] at h
          split at h
          · rename_i es c hb
            cases h
            have hr := s.rel b _ hb
            simp only [BlkRel] at hr
            simp [Builtin.len_, hat, run_underlying hu, AV.conc, goInt, getObj, Sem.run, hr, zao]
          · cases h
theorem zsi : ∀ (vs : List AV) (x v : AV), maxA x vs = some v → ((vs.map (AV.conc ι)).foldlM Builtin.max2 (x.conc ι)).run P w = .ok (v.conc ι) w ∧ ((v = x) ∨ ∃ k n, v = .int k n)
  | [], x, v, h => by simp only [maxA] at h; cases h; exact ⟨by simp, .inl rfl⟩
  | y :: vs, x, v, h => by
    cases x <;> cases y <;> simp only [maxA] at h <;> try (cases h; done)
    split at h
    · rename_i hk
      have := zsi vs _ v h
      refine ⟨?_, .inr ?_⟩
      · simp only [List.map_cons, List.foldlM_cons, AV.conc, Builtin.max2, pure_bind]
        simpa [AV.conc] using this.1
      · rcases this.2 with rfl | h2
        · exact ⟨_, _, rfl⟩
        · exact h2
    · cases h
theorem zsj : ∀ (vs : List AV) (x v : AV), minA x vs = some v → ((vs.map (AV.conc ι)).foldlM Builtin.min2 (x.conc ι)).run P w = .ok (v.conc ι) w ∧ ((v = x) ∨ ∃ k n, v = .int k n)
  | [], x, v, h => by simp only [minA] at h; cases h; exact ⟨by simp, .inl rfl⟩
  | y :: vs, x, v, h => by
    cases x <;> cases y <;> simp only [minA] at h <;> try (cases h; done)
    split at h
    · rename_i hk
      have := zsj vs _ v h
      refine ⟨?_, .inr ?_⟩
      · simp only [List.map_cons, List.foldlM_cons, AV.conc, Builtin.min2, pure_bind]
        simpa [AV.conc] using this.1
      · rcases this.2 with rfl | h2
        · exact ⟨_, _, rfl⟩
        · exact h2
    · cases h
theorem zf7 [E : Env] (s : Sim P w0 base ι H w) {sz : Nat} {x : AV} {cs : List AV} (h : zc1 H sz x = some cs) (hok : x.OK w0 base H.next) {m : Nat} (hm : m * sz ≤ cs.length) (hm2 : zoj H x = some m ∨ m * sz < cs.length ∨ True)
    (hstr : ∀ b, x = .str b → m ≤ b.size) :
    (Builtin.firstCells sz m (x.conc ι)).run P w = .ok ((cs.take (m * sz)).map (AV.conc ι)).toArray w ∧ ∀ c ∈ cs, c.OK w0 base H.next := by
  unfold zc1 at h
  split at h
  · rename_i a cap s' l
    split at h
    · rename_i hs
      cases h
      simp only [Bool.or_eq_true, decide_eq_true_eq, List.isEmpty_iff] at hs
      have hOK : ∀ c ∈ l.flatMap AV.cells, c.OK w0 base H.next := fun c hc => by
        obtain ⟨y, hy, hc⟩ := List.mem_flatMap.1 hc
        cases a with
        | none => simp only [AV.OK] at hok; rw [hok.1] at hy; simp at hy
        | some a =>
          simp only [AV.OK] at hok
          exact OK.mono (Nat.zero_le _) c (ze5 ((zaz ..).1 hok.2.2 y hy) c hc)
      refine ⟨?_, hOK⟩
      cases a with
      | none =>
        simp only [AV.OK] at hok
        simp [hok.1, AV.conc, Builtin.firstCells]
      | some a =>
        simp only [AV.OK] at hok
        have hcell : ∀ j u, (((l.flatMap AV.cells).take (m * sz)).map (AV.conc ι))[j]? = some u → w.cell? (a.add j) = some u := fun j u hj => by
          rw [List.getElem?_map] at hj
          obtain ⟨c, hc, rfl⟩ := Option.map_eq_some_iff.1 hj
          rw [List.getElem?_take] at hc
          split at hc
          ·
            have hne : l ≠ [] := fun h0 => by simp [h0] at hc
            have hss : s' = sz := hs.resolve_right hne
            subst hss
            have hlen : ∀ y ∈ l, y.cells.length = s' := fun y hy => by
              obtain ⟨i, hi⟩ := List.getElem?_of_mem hy
              exact (hok.2.1 ι i y hi).2.1
            have key : ∀ (l : List AV) (k j : Nat), (∀ y ∈ l, y.cells.length = s') → (∀ i e, l[i]? = some e → a.block < base ∧ ∀ j c, e.cells[j]? = some c → w0.cell? ((a.add ((k + i) * s')).add j) = some (c.conc ι)) →
                (l.flatMap AV.cells)[j]? = some c → a.block < base ∧ w0.cell? (a.add (k * s' + j)) = some (c.conc ι) := by
              intro l
              induction l with
              | nil => intro k j _ _ h; simp at h
              | cons y l ih =>
                intro k j hl hc h
                rw [List.flatMap_cons] at h
                by_cases hj : j < y.cells.length
                · rw [List.getElem?_append_left hj] at h
                  have := hc 0 y rfl
                  refine ⟨this.1, ?_⟩
                  have h2 := this.2 j c h
                  rwa [zop a, Nat.add_zero] at h2
                · rw [List.getElem?_append_right (by omega)] at h
                  have hy := hl y (by simp)
                  have := ih (k + 1) (j - y.cells.length) (fun z hz => hl z (by simp [hz])) (fun i e he => by
                    have := hc (i + 1) e (by simpa using he)
                    rwa [show k + (i + 1) = k + 1 + i by omega] at this) h
                  rw [hy] at this hj
                  have e : (k + 1) * s' + (j - s') = k * s' + j := by rw [Nat.add_mul]; omega
                  rwa [e] at this
            have := key l 0 j hlen (fun i e he => by
              have := hok.2.1 ι i e he
              rw [Nat.zero_add]
              exact ⟨this.1, this.2.2⟩) hc
            rw [Nat.zero_mul, Nat.zero_add] at this
            rw [s.below.cell (p := a.add j) (by rw [zdd]; exact this.1)]
            exact this.2
          · cases hc
        have := run_firstCells_some (P := P) w sz m a l.length cap (((l.flatMap AV.cells).take (m * sz)).map (AV.conc ι)) (by rw [List.length_map, List.length_take]; omega) hcell
        simpa [AV.conc] using this
    · cases h
  · rename_i b i n s'
    split at h
    · rename_i t c hb
      split at h
      · rename_i hc
        simp only [Bool.and_eq_true, decide_eq_true_eq] at hc
        cases h
        obtain ⟨hss, hle⟩ := hc
        subst hss
        obtain ⟨cur, ho, ⟨rest, hr⟩, hcs⟩ := s.rel b _ hb
        refine ⟨?_, fun u hu => s.ok b _ hb u (List.mem_of_mem_drop (List.mem_of_mem_take hu))⟩
        have := run_firstCells_some (P := P) w s' m ⟨(ι b).1, i * s', none⟩ n ((ι b).2 - i) ((((c.drop (i * s')).take (n * s')).take (m * s')).map (AV.conc ι)) (by simp at hm ⊢; omega) (fun j u hj => by
          rw [List.getElem?_map] at hj
          obtain ⟨x, hx, rfl⟩ := Option.map_eq_some_iff.1 hj
          rw [List.getElem?_take] at hx
          split at hx
          · rw [List.getElem?_take] at hx
            split at hx
            · rw [List.getElem?_drop] at hx
              rw [zel, cell_of_row w _ _ _ _ _ ho, ← Array.getElem?_toList, hr]
              have hlt := (List.getElem?_eq_some_iff.1 hx).1
              rw [List.getElem?_append_left (by simpa using hlt), List.getElem?_map, hx]
              rfl
            · cases hx
          · cases hx)
        simpa [AV.conc] using this
      · cases h
    · cases h
  · rename_i b
    split at h
    · rename_i h1
      cases h
      subst h1
      refine ⟨?_, fun c hc => by obtain ⟨y, _, rfl⟩ := List.mem_map.1 hc; trivial⟩
      simp only [AV.conc, Builtin.firstCells, Sem.run_pure]
      congr 1
      apply Array.ext'
      have hb := hstr b rfl
      simp [AV.conc, List.map_take]
      exact congrArg _ (List.map_congr_left fun _ _ => rfl)
    · cases h
  · cases h
end
end Go.Ab
