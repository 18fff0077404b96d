/- What the law's proof leans on, part 33. Conditions: in each statement. -/
import Derived.Test.YtibehelnfbcnjaaGreatDoorQW7
set_option linter.all false
set_option linter.unusedSimpArgs false
set_option linter.unusedVariables false
namespace Go.Ab
open Go Go.RowKit
section
variable {P : Program} {w0 : World} {base lo : Nat} {ι ι1 ι2 : Inj} {H H1 H2 : Heap} {w w1 w2 : World}
theorem zl1 [E : Env] {t : TypeId} {x v : AV} {i : Nat} (h : zhz P t x i = some v) (hok : x.OK w0 base H.next) :
    (Instr.fieldAt t (x.conc ι) i).run P w = .ok (v.conc ι) w ∧ v.OK w0 base H.next := by
  unfold zhz at h
  cases hu : P.underlying t with
  | none => simp [hu] at h
  | some d =>
    cases d <;> simp only [hu] at h <;> try (cases h; done)
    rename_i fs
    cases hf : fs[i]? with
    | none => simp [hf] at h
    | some f =>
      cases hs : za0 P f.type with
      | none => simp [hf, hs] at h
      | some s =>
        simp only [hf, hs] at h
        split at h
        · cases h
        · rename_i hs0
          have hrun : ∀ a : Addr, (Instr.fieldAt t (.pointer (some a)) i).run P w = .ok (.pointer (some (a.add f.offset))) w := fun a => by
            simp [Instr.fieldAt, run_underlying hu, hf, Instr.sureAddr, fieldPlace, zax hs, hs0]
          cases x <;> simp only [] at h <;> try (cases h; done)
          · cases h
            refine ⟨?_, hok⟩
            simp only [AV.conc]; rw [hrun, zb7]
          · rename_i a cs
            cases h
            refine ⟨by simp only [AV.conc]; rw [hrun], ?_⟩
            simp only [AV.OK] at hok ⊢
            refine ⟨by rw [zcg]; exact hok.1, fun ι j c hj => ?_, (zar ..).2 fun c hc => (zar ..).1 hok.2.2 c (List.mem_of_mem_drop hc)⟩
            rw [List.getElem?_drop] at hj
            rw [zmc a]
            exact hok.2.1 ι _ c hj
theorem zn2 [E : Env] {t : TypeId} {cs : List AV} {off : Nat} {v : AV} (h : yaah P t cs off = some v) (hok : ∀ c ∈ cs, c.OK w0 base H.next) :
    (part t (cs.map (AV.conc ι)).toArray off).run P w = .ok (v.conc ι) w ∧ v.OK w0 base H.next := by
  unfold yaah at h
  cases hA : ze1 P t with
  | none => simp [hA] at h
  | some b =>
    cases b with
    | true =>
      cases hs : za0 P t with
      | none => simp [hA, hs] at h
      | some n =>
        simp only [hA, hs] at h
        cases h
        constructor
        · simp only [part, Sem.run_bind, zfw hA, Result.andThen_ok, if_true, zax hs, Sem.run_pure, AV.conc, zaz]
          congr 2
          simp [List.map_take, List.map_drop, List.extract_eq_take_drop]
        · simp only [AV.OK]
          exact (zar ..).2 fun c hc => hok c (List.mem_of_mem_drop (List.mem_of_mem_take hc))
    | false =>
      simp only [hA] at h
      refine ⟨?_, hok v (List.mem_of_getElem? h)⟩
      simp [part, zfw hA, h]
theorem zsz [E : Env] {t : TypeId} {x v : AV} {i : Nat} (h : zxw P t x i = some v) (hok : x.OK w0 base H.next) :
    (Instr.field t (x.conc ι) i).run P w = .ok (v.conc ι) w ∧ v.OK w0 base H.next := by
  unfold zxw at h
  split at h
  · rename_i fs cs hu
    split at h
    · rename_i f hf
      simp only [AV.OK] at hok
      have := zn2 (ι := ι) (w := w) h ((zar ..).1 hok)
      refine ⟨?_, this.2⟩
      simp only [Instr.field, Sem.run_bind, run_underlying hu, Result.andThen_ok, hf, AV.conc, asAgg, pure_bind, zaz]
      simpa using this.1
    · cases h
  · cases h
theorem zl3 [E : Env] {t : TypeId} {x ix v : AV} (h : za8 P t x ix = some v) (hok : x.OK w0 base H.next) :
    (Instr.indexAt t (x.conc ι) (ix.conc ι)).run P w = .ok (v.conc ι) w ∧ v.OK w0 base H.next := by
  unfold za8 at h
  split at h
  · rename_i e a cap sz l k i hu
    split at h
    · rename_i s hs
      split at h
      · rename_i hc
        simp only [Bool.and_eq_true, decide_eq_true_eq] at hc
        split at h
        · rename_i y hy
          cases h
          have hlt : i.toNat < l.length := (List.getElem?_eq_some_iff.1 hy).1
          have hi : 0 ≤ i ∧ i < (l.length : Int) := ⟨hc.2, by omega⟩
          constructor
          · simp [Instr.indexAt, AV.conc, asIntOf, run_underlying hu, hi, zax hs]
          · simp only [AV.OK] at hok ⊢
            obtain ⟨hb, hsz, _⟩ := hok.2.1 (fun _ => (0, 0)) i.toNat y hy
            refine ⟨by rw [zcg]; exact hb, fun ι j c hj => ?_, (zar ..).2 fun c hc' => zdy ((zar ..).1 hok.2.2 y (List.mem_of_getElem? hy)) c hc'⟩
            rw [hc.1]
            exact (hok.2.1 ι i.toNat y hy).2.2 j c hj
        · cases h
      · cases h
    · cases h
  · rename_i e b o n cap sz k i hu
    split at h
    · rename_i s hs
      split at h
      · rename_i hc
        simp only [Bool.and_eq_true, decide_eq_true_eq] at hc
        cases h
        have hi : 0 ≤ i ∧ i < (n : Int) := ⟨hc.1.2, hc.2⟩
        refine ⟨?_, by simpa [AV.OK] using hok⟩
        simp [Instr.indexAt, AV.conc, asIntOf, run_underlying hu, hi, zax hs, zb7, hc.1.1]
      · cases h
    · cases h
  · rename_i e b j n sz k i hu
    split at h
    · rename_i s hs
      split at h
      · rename_i hc
        simp only [Bool.and_eq_true, decide_eq_true_eq] at hc
        cases h
        have hi : 0 ≤ i ∧ i < (n : Int) := ⟨hc.1.2, hc.2⟩
        refine ⟨?_, by simpa [AV.OK] using hok⟩
        simp [Instr.indexAt, AV.conc, asIntOf, run_underlying hu, hi, zax hs, zb7, hc.1.1]
      · cases h
    · cases h
  · rename_i n e b o k i hu
    split at h
    · rename_i s hs
      split at h
      · rename_i hc
        simp only [Bool.and_eq_true, decide_eq_true_eq] at hc
        cases h
        have hi : 0 ≤ i ∧ i < (n : Int) := hc
        refine ⟨?_, by simpa [AV.OK] using hok⟩
        simp [Instr.indexAt, AV.conc, asIntOf, run_underlying hu, hi, zax hs, zb7, Instr.sureAddr]
      · cases h
    · cases h
  · rename_i n e a cs k i hu
    split at h
    · rename_i s hs
      split at h
      · rename_i hc
        simp only [Bool.and_eq_true, decide_eq_true_eq] at hc
        cases h
        have hi : 0 ≤ i ∧ i < (n : Int) := hc
        refine ⟨by simp [Instr.indexAt, AV.conc, asIntOf, run_underlying hu, hi, zax hs, Instr.sureAddr], ?_⟩
        simp only [AV.OK] at hok ⊢
        refine ⟨by rw [zcg]; exact hok.1, fun ι j c hj => ?_, (zar ..).2 fun c hc => (zar ..).1 hok.2.2 c (List.mem_of_mem_drop hc)⟩
        rw [List.getElem?_drop] at hj
        rw [zmc a]
        exact hok.2.1 ι _ c hj
      · cases h
    · cases h
  · cases h
theorem ztf [E : Env] {t : TypeId} {x ix v : AV} (h : zte P t x ix = some v) (hok : x.OK w0 base H.next) :
    (Instr.index t (x.conc ι) (ix.conc ι)).run P w = .ok (v.conc ι) w ∧ v.OK w0 base H.next := by
  unfold zte at h
  split at h
  · rename_i s k i hu
    split at h
    · rename_i hi
      split at h
      · rename_i b hb
        cases h
        have hb' : s[i.toNat]? = some b := by
          have : i.toNat < s.size := by
            have := (List.getElem?_eq_some_iff.1 hb).1
            simpa using this
          rw [getElem?_pos s i.toNat this]
          have h2 := hb
          rw [List.getElem?_eq_getElem (by simpa using this)] at h2
          simpa [ByteArray.getElem_eq_getElem_data] using h2
        exact ⟨by simp [Instr.index, AV.conc, asIntOf, run_underlying hu, hi, hb'], trivial⟩
      · cases h
    · cases h
  · rename_i n e cs k i hu
    split at h
    · rename_i s hs
      split at h
      · rename_i hc
        simp only [Bool.and_eq_true, decide_eq_true_eq] at hc
        simp only [AV.OK] at hok
        have := zn2 (ι := ι) (w := w) h ((zar ..).1 hok)
        refine ⟨?_, this.2⟩
        have hc' : 0 ≤ i ∧ i < (n : Int) := hc
        simp [Instr.index, AV.conc, asIntOf, run_underlying hu, hc', zax hs, zaz]
        simpa using this.1
      · cases h
    · cases h
  · cases h
theorem zv3 [E : Env] (s : Sim P w0 base ι H w) {t : Option TypeId} {x : AV} {n : Nat} (h : zv2 P H t x = some n) (ats : Array TypeId) (hat : ats[0]? = t) (ty : TypeId) :
    (Builtin.len_ ats ty #[x.conc ι]).run P w = .ok (.int .i64 n) w := by
  cases t with
  | none => simp [zv2] at h
  | some t =>
    unfold zv2 at h
    simp only [Option.bind_some] at h
    cases hu : P.underlying t with
    | none => simp [hu] at h
    | some d =>
      cases d <;> cases x <;> simp only [hu] at h <;> try (cases h; done)
      · cases h; simp [Builtin.len_, hat, run_underlying hu, AV.conc, goInt]
      · cases h; simp [Builtin.len_, hat, run_underlying hu, AV.conc, goInt]
      · cases h; simp [Builtin.len_, hat, run_underlying hu, AV.conc, goInt]
      · cases h; simp [Builtin.len_, hat, run_underlying hu, AV.conc, goInt]
      · rename_i b
        cases b with
        | none => cases h; simp [Builtin.len_, hat, run_underlying hu, AV.conc, goInt]
        | some b =>
          simp only [] at h
          split at h
          · rename_i es c hb
            cases h
            have hr := s.rel b _ hb
            simp only [BlkRel] at hr
            simp [Builtin.len_, hat, run_underlying hu, AV.conc, goInt, getObj, Sem.run, hr, zal]
          · cases h
theorem zpz : ∀ (vs : List AV) (x v : AV), maxA x vs = some v → ((vs.map (AV.conc ι)).foldlM Builtin.max2 (x.conc ι)).run P w = .ok (v.conc ι) w ∧ ((v = x) ∨ ∃ k n, v = .int k n)
  | [], x, v, h => by simp only [maxA] at h; cases h; exact ⟨by simp, .inl rfl⟩
  | y :: vs, x, v, h => by
    cases x <;> cases y <;> simp only [maxA] at h <;> try (cases h; done)
    split at h
    · rename_i hk
      have := zpz vs _ v h
      refine ⟨?_, .inr ?_⟩
      · simp only [List.map_cons, List.foldlM_cons, AV.conc, Builtin.max2, pure_bind]
        simpa [AV.conc] using this.1
      · rcases this.2 with rfl | h2
        · exact ⟨_, _, rfl⟩
        · exact h2
    · cases h
theorem zp0 : ∀ (vs : List AV) (x v : AV), minA x vs = some v → ((vs.map (AV.conc ι)).foldlM Builtin.min2 (x.conc ι)).run P w = .ok (v.conc ι) w ∧ ((v = x) ∨ ∃ k n, v = .int k n)
  | [], x, v, h => by simp only [minA] at h; cases h; exact ⟨by simp, .inl rfl⟩
  | y :: vs, x, v, h => by
    cases x <;> cases y <;> simp only [minA] at h <;> try (cases h; done)
    split at h
    · rename_i hk
      have := zp0 vs _ v h
      refine ⟨?_, .inr ?_⟩
      · simp only [List.map_cons, List.foldlM_cons, AV.conc, Builtin.min2, pure_bind]
        simpa [AV.conc] using this.1
      · rcases this.2 with rfl | h2
        · exact ⟨_, _, rfl⟩
        · exact h2
    · cases h
theorem zev [E : Env] (s : Sim P w0 base ι H w) {sz : Nat} {x : AV} {cs : List AV} (h : zb5 H sz x = some cs) (hok : x.OK w0 base H.next) {m : Nat} (hm : m * sz ≤ cs.length) (hm2 : zl4 H x = some m ∨ m * sz < cs.length ∨ True)
    (hstr : ∀ b, x = .str b → m ≤ b.size) :
    (Builtin.firstCells sz m (x.conc ι)).run P w = .ok ((cs.take (m * sz)).map (AV.conc ι)).toArray w ∧ ∀ c ∈ cs, c.OK w0 base H.next := by
  unfold zb5 at h
  split at h
  · rename_i a cap s' l
    split at h
    · rename_i hs
      cases h
      simp only [Bool.or_eq_true, decide_eq_true_eq, List.isEmpty_iff] at hs
      have hOK : ∀ c ∈ l.flatMap AV.cells, c.OK w0 base H.next := fun c hc => by
        obtain ⟨y, hy, hc⟩ := List.mem_flatMap.1 hc
        cases a with
        | none => simp only [AV.OK] at hok; rw [hok.1] at hy; simp at hy
        | some a =>
          simp only [AV.OK] at hok
          exact OK.mono (Nat.zero_le _) c (zdy ((zar ..).1 hok.2.2 y hy) c hc)
      refine ⟨?_, hOK⟩
      cases a with
      | none =>
        simp only [AV.OK] at hok
        simp [hok.1, AV.conc, Builtin.firstCells]
      | some a =>
        simp only [AV.OK] at hok
        have hcell : ∀ j u, (((l.flatMap AV.cells).take (m * sz)).map (AV.conc ι))[j]? = some u → w.cell? (a.add j) = some u := fun j u hj => by
          rw [List.getElem?_map] at hj
          obtain ⟨c, hc, rfl⟩ := Option.map_eq_some_iff.1 hj
          rw [List.getElem?_take] at hc
          split at hc
          ·
            have hne : l ≠ [] := fun h0 => by simp [h0] at hc
            have hss : s' = sz := hs.resolve_right hne
            subst hss
            have hlen : ∀ y ∈ l, y.cells.length = s' := fun y hy => by
              obtain ⟨i, hi⟩ := List.getElem?_of_mem hy
              exact (hok.2.1 ι i y hi).2.1
            have key : ∀ (l : List AV) (k j : Nat), (∀ y ∈ l, y.cells.length = s') → (∀ i e, l[i]? = some e → a.block < base ∧ ∀ j c, e.cells[j]? = some c → w0.cell? ((a.add ((k + i) * s')).add j) = some (c.conc ι)) →
                (l.flatMap AV.cells)[j]? = some c → a.block < base ∧ w0.cell? (a.add (k * s' + j)) = some (c.conc ι) := by
              intro l
              induction l with
              | nil => intro k j _ _ h; simp at h
              | cons y l ih =>
                intro k j hl hc h
                rw [List.flatMap_cons] at h
                by_cases hj : j < y.cells.length
                · rw [List.getElem?_append_left hj] at h
                  have := hc 0 y rfl
                  refine ⟨this.1, ?_⟩
                  have h2 := this.2 j c h
                  rwa [zmc a, Nat.add_zero] at h2
                · rw [List.getElem?_append_right (by omega)] at h
                  have hy := hl y (by simp)
                  have := ih (k + 1) (j - y.cells.length) (fun z hz => hl z (by simp [hz])) (fun i e he => by
                    have := hc (i + 1) e (by simpa using he)
                    rwa [show k + (i + 1) = k + 1 + i by omega] at this) h
                  rw [hy] at this hj
                  have e : (k + 1) * s' + (j - s') = k * s' + j := by rw [Nat.add_mul]; omega
                  rwa [e] at this
            have := key l 0 j hlen (fun i e he => by
              have := hok.2.1 ι i e he
              rw [Nat.zero_add]
              exact ⟨this.1, this.2.2⟩) hc
            rw [Nat.zero_mul, Nat.zero_add] at this
            rw [s.below.cell (p := a.add j) (by rw [zcg]; exact this.1)]
            exact this.2
          · cases hc
        have := run_firstCells_some (P := P) w sz m a l.length cap (((l.flatMap AV.cells).take (m * sz)).map (AV.conc ι)) (by rw [List.length_map, List.length_take]; omega) hcell
        simpa [AV.conc] using this
    · cases h
  · rename_i b i n s'
    split at h
    · rename_i t c hb
      split at h
      · rename_i hc
        simp only [Bool.and_eq_true, decide_eq_true_eq] at hc
        cases h
        obtain ⟨hss, hle⟩ := hc
        subst hss
        obtain ⟨cur, ho, ⟨rest, hr⟩, hcs⟩ := s.rel b _ hb
        refine ⟨?_, fun u hu => s.ok b _ hb u (List.mem_of_mem_drop (List.mem_of_mem_take hu))⟩
        have := run_firstCells_some (P := P) w s' m ⟨(ι b).1, i * s', none⟩ n ((ι b).2 - i) ((((c.drop (i * s')).take (n * s')).take (m * s')).map (AV.conc ι)) (by simp at hm ⊢; omega) (fun j u hj => by
          rw [List.getElem?_map] at hj
          obtain ⟨x, hx, rfl⟩ := Option.map_eq_some_iff.1 hj
          rw [List.getElem?_take] at hx
          split at hx
          · rw [List.getElem?_take] at hx
            split at hx
            · rw [List.getElem?_drop] at hx
              rw [zb7, cell_of_row w _ _ _ _ _ ho, ← Array.getElem?_toList, hr]
              have hlt := (List.getElem?_eq_some_iff.1 hx).1
              rw [List.getElem?_append_left (by simpa using hlt), List.getElem?_map, hx]
              rfl
            · cases hx
          · cases hx)
        simpa [AV.conc] using this
      · cases h
    · cases h
  · rename_i b o n cap s'
    split at h
    · rename_i t c hb
      split at h
      · rename_i hc
        simp only [Bool.and_eq_true, decide_eq_true_eq] at hc
        cases h
        obtain ⟨hss, hle⟩ := hc
        subst hss
        obtain ⟨cur, ho, ⟨rest, hr⟩, hcs⟩ := s.rel b _ hb
        refine ⟨?_, fun u hu => s.ok b _ hb u (List.mem_of_mem_drop (List.mem_of_mem_take hu))⟩
        have := run_firstCells_some (P := P) w s' m ⟨(ι b).1, o, none⟩ n cap ((((c.drop (o)).take (n * s')).take (m * s')).map (AV.conc ι)) (by simp at hm ⊢; omega) (fun j u hj => by
          rw [List.getElem?_map] at hj
          obtain ⟨x, hx, rfl⟩ := Option.map_eq_some_iff.1 hj
          rw [List.getElem?_take] at hx
          split at hx
          · rw [List.getElem?_take] at hx
            split at hx
            · rw [List.getElem?_drop] at hx
              rw [zb7, cell_of_row w _ _ _ _ _ ho, ← Array.getElem?_toList, hr]
              have hlt := (List.getElem?_eq_some_iff.1 hx).1
              rw [List.getElem?_append_left (by simpa using hlt), List.getElem?_map, hx]
              rfl
            · cases hx
          · cases hx)
        simpa [AV.conc] using this
      · cases h
    · cases h
  · rename_i b
    split at h
    · rename_i h1
      cases h
      subst h1
      refine ⟨?_, fun c hc => by obtain ⟨y, _, rfl⟩ := List.mem_map.1 hc; trivial⟩
      simp only [AV.conc, Builtin.firstCells, Sem.run_pure]
      congr 1
      apply Array.ext'
      have hb := hstr b rfl
      simp [AV.conc, List.map_take]
      exact congrArg _ (List.map_congr_left fun _ _ => rfl)
    · cases h
  · cases h
end
end Go.Ab
