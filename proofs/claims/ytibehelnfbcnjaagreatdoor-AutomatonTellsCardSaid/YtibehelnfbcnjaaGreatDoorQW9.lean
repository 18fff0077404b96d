/- What the law's proof leans on, part 34. Conditions: in each statement. -/
import Derived.Test.YtibehelnfbcnjaaGreatDoorQW8
set_option linter.all false
set_option linter.unusedSimpArgs false
set_option linter.unusedVariables false
namespace Go.Ab
open Go Go.RowKit
section
variable {P : Program} {w0 : World} {base lo : Nat} {ι ι1 ι2 : Inj} {H H1 H2 : Heap} {w w1 w2 : World}
theorem zmh {x : AV} {n : Nat} (h : zl4 H x = some n) : ∀ b, x = .str b → n ≤ b.size := fun b e => by subst e; simp [zl4] at h; omega
theorem zig [E : Env] (s : Sim P w0 base ι H w) {sz : Nat} {x : AV} {cs : List AV} {n : Nat} (h : zb5 H sz x = some cs) (hl : zl4 H x = some n) (hc : cs.length = n * sz) (hok : x.OK w0 base H.next) :
    (∀ k, (Builtin.firstCells sz n (x.conc ι)).run P { w with drawn := k } = .ok (cs.map (AV.conc ι)).toArray { w with drawn := k }) ∧ (Builtin.lenOf (x.conc ι)).run P w = .ok n w ∧ (∀ c ∈ cs, c.OK w0 base H.next) := by
  refine ⟨fun k => ?_, ?_, (zev (m := n) s h hok (by omega) (.inl hl) (zmh hl)).2⟩
  · have := (zev (m := n) (s.drawn k) h hok (by omega) (.inl hl) (zmh hl)).1
    rwa [← hc, List.take_length] at this
  · cases x <;> simp only [zl4] at hl <;> try (cases hl; done)
    · cases hl; simp [AV.conc, Builtin.lenOf]
    · cases hl; simp [AV.conc, Builtin.lenOf]
    · cases hl; simp [AV.conc, Builtin.lenOf]
    · cases hl; simp [AV.conc, Builtin.lenOf]
    · rename_i b; cases b with
      | none => simp [zb5] at h
      | some b => simp [zb5] at h
theorem znt {need old bytes : Nat} (h : old < need) (hb : (2 * need + 200) * bytes ≤ 70368744177664) : Builtin.nextslicecap need old * bytes ≤ 281474976710656 :=
  growslice_fits h (Nat.le_trans (Nat.mul_le_mul_right _ (by omega)) (Nat.le_trans hb (by omega)))
theorem zui [E : Env] (s : Sim P w0 base ι H w) {b i m sz : Nat} (h : zp8 P H b i m sz = true) : m ≤ (ι b).2 - i := by
  unfold zp8 at h
  split at h
  · rename_i u c hb
    simp only [Bool.and_eq_true, decide_eq_true_eq] at h
    obtain ⟨⟨hu, hp⟩, hle⟩ := h
    obtain ⟨cur, ho, ⟨rest, hr⟩, hcs⟩ := s.rel b _ hb
    have hcur : c.length ≤ cur.size := by
      have := congrArg List.length hr
      simp at this; omega
    rw [hcs, za9 hu] at hcur
    have := Nat.le_of_mul_le_mul_right (Nat.le_trans hle hcur) hp
    omega
  · cases h
theorem Post.regrow [E : Env] (s : Sim P w0 base ι H w) {b : Nat} {t : TypeId} {c cs : List AV} (hb : H.get b = some (.cells t c)) (hlo : lo ≤ b) (hOK : ∀ u ∈ cs, u.OK w0 base H.next)
    (cur : Array Value) (rest : List Value) (cap : Nat) (w1 : World) (hcur : cur.toList = (c ++ cs).map (AV.conc ι) ++ rest) (hcap : cur.size = cap * P.cellsOf t)
    (r : Nat) (hr : (r = (ι b).1 ∧ w1.heap.size = w.heap.size ∧ (∀ k, k ≠ r → w1.heap[k]? = w.heap[k]?)) ∨ (r = w.heap.size ∧ w1.heap.size = w.heap.size + 1 ∧ ∀ k, k < w.heap.size → w1.heap[k]? = w.heap[k]?))
    (hw : w1.os = w.os ∧ w1.tape = w.tape ∧ w1.output = w.output) (ho : w1.heap[r]? = some (.cells cur t (0, 0))) :
    Post P w0 base lo ι H w (ι.put H.next r cap) ((H.kill b).push (.cells t (c ++ cs))) w1 := by
  have hblt := s.lt b _ hb
  have hext : ∀ k, k < H.next → ι.put H.next r cap k = ι k := fun k h => Inj.put_lt ι _ _ h
  have hget : ∀ k y, ((H.kill b).push (.cells t (c ++ cs))).get k = some y → (k = H.next ∧ y = .cells t (c ++ cs)) ∨ (k < H.next ∧ k ≠ b ∧ H.get k = some y) := fun k y h => by
    rw [Heap.get_push, Heap.get_kill] at h
    by_cases e : k = H.next
    · rw [if_pos (show k = (H.kill b).next from e)] at h; exact .inl ⟨e, (Option.some.inj h).symm⟩
    · rw [if_neg (show ¬ k = (H.kill b).next from e)] at h
      by_cases e2 : k = b
      · simp [e2] at h
      · rw [if_neg e2] at h; exact .inr ⟨s.lt k y h, e2, h⟩
  have hsame : ∀ k y, H.get k = some y → k ≠ b → w1.heap[(ι k).1]? = w.heap[(ι k).1]? ∧ (ι k).1 ≠ r := fun k y h hne => by
    rcases hr with ⟨e, _, hk⟩ | ⟨e, _, hk⟩
    · have : (ι k).1 ≠ r := fun h' => hne (s.inj k b y _ h hb (h'.trans e))
      exact ⟨hk _ this, this⟩
    · have := s.blt h
      exact ⟨hk _ this, by omega⟩
  have hbr : base ≤ r := by
    rcases hr with ⟨e, _⟩ | ⟨e, _⟩
    · rw [e]; exact s.lo b _ hb
    · rw [e]; exact Nat.le_trans s.hb s.below.size
  refine ⟨⟨?_, s.hb, s.gl, ?_, ?_, ?_, ?_, ?_⟩, hext, by simp, ?_, ?_, ?_, ?_, ?_⟩
  · refine s.below.trans ⟨hw.1, hw.2.1, hw.2.2, by rcases hr with ⟨_, e, _⟩ | ⟨_, e, _⟩ <;> omega, fun k hk => ?_⟩
    rcases hr with ⟨e, _, h⟩ | ⟨e, _, h⟩
    · exact h k (by omega)
    · exact h k (by have := s.below.size; have := s.hb; omega)
  · intro k k' y y' h h' e
    rcases hget k y h with ⟨rfl, rfl⟩ | ⟨hk, hkb, hy⟩ <;> rcases hget k' y' h' with ⟨rfl, rfl⟩ | ⟨hk', hkb', hy'⟩
    · rfl
    · rw [hext k' hk', Inj.put_same] at e; exact absurd e.symm (hsame k' y' hy' hkb').2
    · rw [hext k hk, Inj.put_same] at e; exact absurd e (hsame k y hy hkb).2
    · rw [hext k hk, hext k' hk'] at e; exact s.inj k k' y y' hy hy' e
  · intro k y h; rcases hget k y h with ⟨rfl, rfl⟩ | ⟨hk, _, _⟩ <;> simp <;> omega
  · intro k y h
    rcases hget k y h with ⟨rfl, rfl⟩ | ⟨hk, _, hy⟩
    · simpa using hbr
    · rw [hext k hk]; exact s.lo k y hy
  · intro k y h
    rcases hget k y h with ⟨rfl, rfl⟩ | ⟨hk, _, hy⟩
    · intro u hu
      rcases List.mem_append.1 hu with hu | hu
      · exact OK.mono (by simp) u (s.ok b _ hb u hu)
      · exact OK.mono (by simp) u (hOK u hu)
    · exact (s.ok k y hy).mono (by simp)
  · intro k y h
    rcases hget k y h with ⟨rfl, rfl⟩ | ⟨hk, hkb, hy⟩
    · rw [Inj.put_same]
      refine ⟨cur, ho, ⟨rest, ?_⟩, hcap⟩
      rw [hcur]
      congr 1
      refine (zlp (w0 := w0) (base := base) hext fun u hu => ?_).symm
      rcases List.mem_append.1 hu with hu | hu
      · exact s.ok b _ hb u hu
      · exact hOK u hu
    · rw [hext k hk, (hsame k y hy hkb).1]
      exact BlkRel.ext hext (s.ok k y hy) (s.rel k y hy)
  · intro k hk
    rw [Heap.get_push, Heap.get_kill, if_neg (by simp; omega), if_neg (by omega)]
  · intro k y hk h
    rcases hget k y h with ⟨rfl, rfl⟩ | ⟨_, _, hy⟩
    · omega
    · exact ⟨y, hy⟩
  · rcases hr with ⟨_, e, _⟩ | ⟨_, e, _⟩ <;> omega
  · intro k hk hne
    rcases hr with ⟨e, _, h⟩ | ⟨e, _, h⟩
    · exact h k (fun h' => hne b _ hb hlo (by rw [h', e]))
    · exact h k hk
  · intro k y h hk
    rcases hget k y h with ⟨rfl, rfl⟩ | ⟨hk', _, _⟩
    · rw [Inj.put_same]
      rcases hr with ⟨e, _⟩ | ⟨e, _⟩
      · exact .inr ⟨b, _, hb, hlo, e⟩
      · exact .inl (by simp [e])
    · omega
theorem zqi [E : Env] (s : Sim P w0 base ι H w) {st xt : Option TypeId} {a x v : AV} {H' : Heap} (h : zmz P lo H st xt a x = some (v, H')) (ats : Array TypeId) (h0 : ats[0]? = st) (h1 : ats[1]? = xt) (ty : TypeId)
    (ha : a.OK w0 base H.next) (hx : x.OK w0 base H.next) (hlo : lo ≤ H.next) :
    ∃ ι' w', (Builtin.append_ ats ty #[a.conc ι, x.conc ι]).run P w = .ok (v.conc ι') w' ∧ Post P w0 base lo ι H w ι' H' w' ∧ v.OK w0 base H'.next := by
  unfold zmz at h
  cases st with
  | none => simp at h
  | some st =>
  cases xt with
  | none => simp at h
  | some xt =>
  simp only [Option.bind_some] at h
  cases hu : P.underlying st with
  | none => simp [hu] at h
  | some d =>
  cases hxu : P.underlying xt with
  | none => simp [hu, hxu] at h
  | some xd =>
  cases d <;> simp only [hu, hxu] at h <;> try (cases h; done)
  rename_i e
  split at h
  · cases h
  rename_i hint
  cases hi : P.info? e with
  | none => simp [hi] at h
  | some i =>
  cases hz : zd8 P e with
  | none => simp [hi, hz] at h
  | some z =>
  have hce : P.cellsOf e = i.size := by simp [Program.cellsOf, hi]
  rw [hce] at h
  cases hcs : zb5 H i.size x with
  | none => simp [hi, hz, hcs] at h
  | some cs =>
  cases hn : zl4 H x with
  | none => simp [hi, hz, hcs, hn] at h
  | some n =>
  simp only [hi, hz, hcs, hn] at h
  split at h
  case isFalse => cases h
  rename_i hcond
  simp only [zqj, Bool.and_eq_true, decide_eq_true_eq] at hcond
  obtain ⟨⟨⟨hs0, hzl⟩, hcl⟩, hleaf⟩ := hcond
  have hsz : za0 P e = some i.size := by simp [za0, hi]
  obtain ⟨hf, hlen, hOK⟩ := zig s hcs hn hcl hx
  have hleaf' : ∀ u ∈ cs.map (AV.conc ι), u.oneCell' = true := fun u hu => by
    obtain ⟨y, hy, rfl⟩ := List.mem_map.1 hu
    exact zlo (by simpa [zbo] using (List.all_eq_true.1 hleaf) y hy)
  have hfw : (Builtin.firstCells i.size n (x.conc ι)).run P w = .ok (cs.map (AV.conc ι)).toArray w := hf w.drawn
  have hzc : (z.conc ι).cells.size = i.size := by rw [zh9, hzl]
  have hroom : ∀ (A : Option Addr) (L C : Nat) (w' : World), L + n ≤ C → (match A with | some a => (storeCells (a.add (L * i.size)) (cs.map (AV.conc ι))).run P w = .ok () w' | none => w' = w) →
      (Builtin.append_ ats ty #[.slice A L C, x.conc ι]).run P w = .ok (.slice A (L + n) C) w' := by
    intro A L C w' hle hst
    cases xd <;> simp [yajh] at hint
    all_goals
      cases A with
      | none =>
        simp only [] at hst
        subst hst
        simp [Builtin.append_, h0, h1, run_underlying hu, run_underlying hxu, zax hsz, hlen, hle, hfw]
      | some A =>
        simp only [] at hst
        simp [Builtin.append_, h0, h1, run_underlying hu, run_underlying hxu, zax hsz, hlen, hle, hfw, hst]
  have hgrow : ∀ (A : Option Addr) (L C : Nat) (olds : List Value), C < L + n → zhv i L n = true → (∀ k, (Builtin.firstCells i.size L (.slice A L C)).run P { w with drawn := k } = .ok olds.toArray { w with drawn := k }) →
      (Builtin.append_ ats ty #[.slice A L C, x.conc ι]).run P w = .ok (.slice (some ⟨w.heap.size, 0, none⟩) (L + n) (grownCap w (L + n) C e))
        (({ w with drawn := w.drawn + 1 } : World).alloc (.cells (olds.toArray ++ (cs.map (AV.conc ι)).toArray ++ Builtin.zeroCells (z.conc ι).cells (grownCap w (L + n) C e - (L + n))) e)) := by
    intro A L C olds hlt hfit hold
    simp only [zhv, Bool.and_eq_true, decide_eq_true_eq] at hfit
    have hn' : ¬ (L + n ≤ C) := by omega
    have h63 : ¬ (9223372036854775807 < ((L : Int) + (n : Int))) := by omega
    have h48 : ¬ (281474976710656 < Builtin.nextslicecap (L + n) C * i.bytes) := by have := znt hlt hfit.1; omega
    cases xd <;> simp [yajh] at hint
    all_goals
      simp [Builtin.append_, h0, h1, run_underlying hu, run_underlying hxu, zax hsz, hlen, hn', hi, typeInfo, h63, h48, Question.forced, askRoom]
      have e1 : (Builtin.firstCells i.size L (.slice A L C)).run P w.drew = .ok olds.toArray w.drew := hold (w.drawn + 1)
      have e2 : (Builtin.firstCells i.size n (x.conc ι)).run P w.drew = .ok (cs.map (AV.conc ι)).toArray w.drew := hf (w.drawn + 1)
      simp [e1, e2, zca hz ι, newRow, newObj, Sem.run, grownCap]
      congr 2
      apply Array.ext'
      simp
  have hdr : ∀ (o : Obj), ({ w with drawn := w.drawn + 1 } : World).alloc o = { w.alloc o with drawn := w.drawn + 1 } := fun o => rfl
  unfold zqk at h
  split at h
  ·
    rename_i cap s' l
    simp only [AV.OK] at ha
    obtain ⟨rfl, rfl⟩ := ha
    split at h
    · rename_i hn0
      cases h
      subst hn0
      refine ⟨ι, w, ?_, Post.refl s, by simp [AV.OK]⟩
      exact hroom none 0 0 w (by omega) rfl
    · rename_i hn0
      split at h
      · rename_i hfit
        cases h
        have hr := hgrow none 0 0 [] (by omega) hfit (fun k => by simp [Builtin.firstCells])
        simp only [Nat.zero_add] at hr
        have hge := grownCap_ge w n 0 e
        have ha := Post.alloc (lo := lo) s (.cells e cs) (.cells ((cs.map (AV.conc ι)).toArray ++ Builtin.zeroCells (z.conc ι).cells (grownCap w n 0 e - n)) e) (grownCap w n 0 e) hOK
          ⟨_, rfl, ⟨(Builtin.zeroCells (z.conc ι).cells (grownCap w n 0 e - n)).toList, by simp⟩, by
            simp [Builtin.zeroCells, hzc, hcl, za9 hsz, ← Nat.add_mul]
            congr 1; omega⟩ hlo
        refine ⟨_, _, ?_, ha.drawn (w.drawn + 1), by simp [AV.OK]⟩
        rw [← hdr]
        simp only [AV.conc] at hr ⊢
        simpa using hr
      · cases h
  ·
    rename_i A cap s' l
    split at h
    · rename_i hn0
      cases h
      subst hn0
      have hcs0 : cs = [] := List.eq_nil_of_length_eq_zero (by simpa using hcl)
      simp only [AV.OK] at ha
      refine ⟨ι, w, ?_, Post.refl s, by simpa only [AV.OK] using ha⟩
      exact hroom (some A) l.length cap w (by simpa using ha.1) (by simp [hcs0, storeCells])
    · cases h
  ·
    rename_i b j m sz
    split at h
    · rename_i hn0
      split at h
      · rename_i hfits
        cases h
        subst hn0
        have hcs0 : cs = [] := List.eq_nil_of_length_eq_zero (by simpa using hcl)
        refine ⟨ι, w, ?_, Post.refl s, ha⟩
        exact hroom _ m _ w (by simpa using zui s hfits) (by simp [hcs0, storeCells])
      · cases h
    · rename_i hn0
      split at h
      · rename_i hj0
        subst hj0
        split at h
        · rename_i u c hb
          split at h
          · rename_i hc
            simp only [Bool.and_eq_true, decide_eq_true_eq] at hc
            obtain ⟨⟨⟨⟨hlob, hue⟩, hszi⟩, hcm⟩, hfit⟩ := hc
            cases h
            subst hue
            subst hszi
            obtain ⟨cur, ho, ⟨rest, hr⟩, hcs'⟩ := s.rel b _ hb
            rw [za9 hsz] at hcs'
            have hlen' := congrArg List.length hr
            simp only [Array.length_toList, List.length_append, List.length_map] at hlen'
            by_cases hle : m + n ≤ (ι b).2
            ·
              have hfit2 : m * i.size + n * i.size ≤ cur.size := by rw [hcs', ← Nat.add_mul]; exact Nat.mul_le_mul_right _ hle
              have hst := run_storeCells_at P (ι b).1 (m * i.size) u (cs.map (AV.conc ι)) 0 cur w ho (by simp; omega) hleaf'
              have hrun := hroom (some ⟨(ι b).1, 0 * i.size, none⟩) m ((ι b).2 - 0) _ (by simpa using hle) (by
                simp only [Nat.zero_mul, zb7, Nat.zero_add]; exact hst)
              have hpost := Post.regrow (lo := lo) (w1 := w.setRow (ι b).1 (cur.toList.take (m * i.size + 0) ++ cs.map (AV.conc ι) ++ cur.toList.drop (m * i.size + 0 + (cs.map (AV.conc ι)).length)).toArray)
                s hb hlob hOK _ (cur.toList.drop (m * i.size + 0 + (cs.map (AV.conc ι)).length)) (ι b).2 (by
                  simp only [Nat.add_zero, List.map_append]
                  rw [hr, List.take_append_of_le_length (by simp [hcm]), List.take_of_length_le (by simp [hcm])]) (by
                  simp only [List.size_toArray, List.length_append, List.length_take, List.length_drop, Array.length_toList, List.length_map, Nat.add_zero]
                  rw [za9 hsz, ← hcs']; omega)
                (ι b).1 (.inl ⟨rfl, by simp, fun k hk => setRow_other w _ k _ hk⟩) ⟨rfl, rfl, rfl⟩ (znj w _ _ _ _ ho)
              refine ⟨_, _, ?_, hpost, by simp [AV.OK]⟩
              simp only [AV.conc] at hrun ⊢
              simpa using hrun
            ·
              have hr2 := hgrow (some ⟨(ι b).1, 0 * i.size, none⟩) m ((ι b).2 - 0) (c.map (AV.conc ι)) (by omega) hfit (fun k => by
                have := run_firstCells_some (P := P) ({ w with drawn := k } : World) i.size m ⟨(ι b).1, 0 * i.size, none⟩ m ((ι b).2 - 0) (c.map (AV.conc ι)) (by simp [hcm]) (fun j v hj => by
                  rw [zb7]
                  show w.cell? _ = some v
                  rw [cell_of_row w _ _ cur u (0, 0) ho, ← Array.getElem?_toList, hr]
                  have hlt := (List.getElem?_eq_some_iff.1 hj).1
                  rw [Nat.zero_mul, Nat.zero_add, List.getElem?_append_left hlt]
                  exact hj)
                exact this)
              have hge := grownCap_ge w (m + n) (ι b).2 u
              simp only [Nat.sub_zero] at hr2
              have hpost := Post.regrow (lo := lo) (w1 := { w.alloc (.cells ((c.map (AV.conc ι)).toArray ++ (cs.map (AV.conc ι)).toArray ++ Builtin.zeroCells (z.conc ι).cells (grownCap w (m + n) (ι b).2 u - (m + n))) u) with drawn := w.drawn + 1 })
                s hb hlob hOK _ (Builtin.zeroCells (z.conc ι).cells (grownCap w (m + n) (ι b).2 u - (m + n))).toList (grownCap w (m + n) (ι b).2 u) (by simp) (by
                  simp [Builtin.zeroCells, hzc, hcl, hcm, za9 hsz, ← Nat.add_mul]
                  congr 1; omega)
                w.heap.size (.inr ⟨rfl, by simp, fun k hk => Below.heap_alloc w _ k hk⟩) ⟨rfl, rfl, rfl⟩ (heap_alloc_new w _)
              refine ⟨_, _, ?_, hpost, by simp [AV.OK]⟩
              rw [← hdr]
              simp only [AV.conc] at hr2 ⊢
              simpa using hr2
          · cases h
        · cases h
      · cases h
  · cases h
end
end Go.Ab
