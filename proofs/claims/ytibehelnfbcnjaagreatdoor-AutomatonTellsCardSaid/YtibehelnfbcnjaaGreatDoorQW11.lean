/- What the law's proof leans on, part 36. Conditions: in each statement. -/
import Derived.Test.YtibehelnfbcnjaaGreatDoorQW10
set_option linter.all false
set_option linter.unusedSimpArgs false
set_option linter.unusedVariables false
namespace Go.Ab
open Go Go.RowKit
section
variable {P : Program} {w0 : World} {base lo : Nat} {ι ι1 ι2 : Inj} {H H1 H2 : Heap} {w w1 w2 : World}
theorem zcr (r : Nat) (o x : Obj) (hx : w.heap[r]? = some x) (hn : ∀ c t f, x ≠ .cells c t f) : (setObj r o).run P w = .ok () { w with heap := w.heap.setIfInBounds r o } := by
  unfold setObj
  simp only [Sem.run, hx]
theorem Post.putObj [E : Env] (s : Sim P w0 base ι H w) {b : Nat} {x : Blk} (hx : H.get b = some x) (y : Blk) (o : Obj) (hlo : lo ≤ b) (hok : BlkOK w0 base H.next y) (hrel : BlkRel P ι (ι b).2 (some o) y) :
    Post P w0 base lo ι H w ι (H.set b y) { w with heap := w.heap.setIfInBounds (ι b).1 o } :=
  Post.put s hx y _ hlo ⟨rfl, rfl, rfl, by simp⟩ (fun r hr => Array.getElem?_setIfInBounds_ne (fun e => hr e.symm)) hok (by
    rw [Array.getElem?_setIfInBounds_self_of_lt (s.blt hx)]; exact hrel)
theorem zfb (es : List (AV × AV × Nat)) (i : Nat) (e : AV × AV × Nat) : zal ι (es.set i e) = (zal ι es).setIfInBounds i (zeg ι e) := by
  apply Array.ext'
  simp [zal, List.map_set, zeg]
theorem zhd (es : List (AV × AV × Nat)) (e : AV × AV × Nat) : zal ι (es ++ [e]) = (zal ι es).push (zeg ι e) := by
  apply Array.ext'
  simp [zal, zeg]
theorem ziq (es : List (AV × AV × Nat)) (i : Nat) : (zal ι es)[i]? = (es[i]?).map (zeg ι) := by
  simp [zal]; rfl
theorem zgb (a : Array MapEntry) (i : Nat) (f : MapEntry → MapEntry) (x : MapEntry) (h : a[i]? = some x) : a.modify i f = a.setIfInBounds i (f x) := by
  apply Array.ext_getElem?
  intro j
  rw [Array.getElem?_modify]
  by_cases e : i = j
  · subst e
    have hi := (Array.getElem?_eq_some_iff.1 h).1
    rw [if_pos rfl, h, Array.getElem?_setIfInBounds_self_of_lt hi]; rfl
  · rw [if_neg e, Array.getElem?_setIfInBounds_ne e]
theorem zho [E : Env] {t : TypeId} {k : AV} (hk : zbf P t k = true) : Instr.sameBits 10000 (k.conc ι) (k.conc ι) = true := by
  have e : (10000 : Nat) = 9999 + 1 := rfl
  rw [e]; generalize 9999 = n
  unfold zbf at hk
  split at hk <;> (try (cases hk; done)) <;> (simp [AV.conc, Instr.sameBits]; try (rw [zsg]; simp))
theorem ztj {t : TypeId} {k : AV} (hk : zbf P t k = true) : ∃ d, P.underlying t = some d := by
  unfold zbf at hk
  cases hu : P.underlying t with
  | none => simp [hu] at hk
  | some d => exact ⟨d, rfl⟩
theorem yaq9 [E : Env] (s : Sim P w0 base ι H w) {b : Nat} {es : List (AV × AV × Nat)} {clock : Nat} (hb : H.get b = some (.map es clock)) {kt : TypeId} {k : AV} (hk : zbf P kt k = true) :
    w.heap[(ι b).1]? = some (.map (zal ι es) clock) ∧ (∀ e, (Instr.checkKey e 10000 kt (k.conc ι)).run P w = .ok () w) ∧
    (∀ i v born, zdk k es 0 = some (some (i, v, born)) → (Instr.findKey kt (k.conc ι) (zal ι es).toList).run P w = .ok (some (i, v.conc ι)) w ∧
      ∃ k', es[i]? = some (k', v, born) ∧ (zal ι es)[i]? = some { key := k.conc ι, val := v.conc ι, born := born }) ∧
    (zdk k es 0 = some none → (Instr.findKey kt (k.conc ι) (zal ι es).toList).run P w = .ok none w) := by
  obtain ⟨d, hu⟩ := ztj hk
  have hr := s.rel b _ hb
  simp only [BlkRel] at hr
  refine ⟨hr, fun e => zih hk e, fun i v born hf => ?_, fun hf => ?_⟩
  · refine ⟨by simpa using zf6 (ι := ι) (w := w) hk hf, ?_⟩
    obtain ⟨_, k', hk', hc⟩ := (zf5 (ι := ι) hu hk es 0 _ hf).2 _ rfl
    simp only [Nat.sub_zero] at hk'
    exact ⟨k', hk', by rw [ziq, hk']; simp [zeg, hc]⟩
  · simpa using zf6 (ι := ι) (w := w) hk hf
theorem zti {a : MapEntry} {k : Value} (ha : a.key = k) (hs : Instr.sameBits 10000 k k = true) : (Instr.keyThatStays a.key k).run P w = .ok k w := by
  rw [ha]; simp [Instr.keyThatStays, hs]
theorem zgl [E : Env] (s : Sim P w0 base ι H w) {t : TypeId} {m k v : AV} {H' : Heap} (h : zfr P lo H t m k v = some H') (hk : k.OK w0 base H.next) (hv : v.OK w0 base H.next) :
    ∃ w', (Instr.mapUpdate t (m.conc ι) (k.conc ι) (v.conc ι)).run P w = .ok () w' ∧ Post P w0 base lo ι H w ι H' w' := by
  unfold zfr at h
  split at h
  · rename_i kt et b hu
    split at h
    · rename_i es clock hb
      split at h
      · rename_i hc
        simp only [Bool.and_eq_true, decide_eq_true_eq] at hc
        obtain ⟨hlo, hkf⟩ := hc
        obtain ⟨hr, hck, hfound, hnone⟩ := yaq9 s hb hkf
        have hOKes := s.ok b _ hb
        split at h
        · rename_i i y born hf
          cases h
          obtain ⟨hfk, k', hk', he⟩ := hfound i y born hf
          have hpost := Post.putObj (lo := lo) s hb (.map (es.set i (k, v, born)) clock) (.map ((zal ι es).setIfInBounds i { key := k.conc ι, val := v.conc ι, born := born }) clock) hlo
            (fun e he => by
              rcases List.mem_or_eq_of_mem_set he with he | rfl
              · exact hOKes e he
              · exact ⟨hk, hv⟩) (by simp only [BlkRel]; rw [zfb]; rfl)
          refine ⟨_, ?_, hpost⟩
          have hkk : (Instr.keyThatStays (((zal ι es)[i]?.map (·.key)).getD (k.conc ι)) (k.conc ι)).run P w = .ok (k.conc ι) w := by
            rw [he]; exact zti (a := { key := k.conc ι, val := y.conc ι, born := born }) rfl (zho hkf)
          simp only [Instr.mapUpdate, Sem.run_bind, run_underlying hu, Result.andThen_ok, AV.conc, zbm hr, hck, hfk, hkk]
          rw [zgb _ _ _ _ he]
          exact zcr _ _ _ hr (by simp)
        · rename_i hf
          cases h
          have hfk := hnone hf
          have hpost := Post.putObj (lo := lo) s hb (.map (es ++ [(k, v, clock)]) (clock + 1)) (.map ((zal ι es).push { key := k.conc ι, val := v.conc ι, born := clock }) (clock + 1)) hlo
            (fun e he => by
              rcases List.mem_append.1 he with he | he
              · exact hOKes e he
              · rw [List.mem_singleton.1 he]; exact ⟨hk, hv⟩) (by simp only [BlkRel]; rw [zhd]; rfl)
          refine ⟨_, ?_, hpost⟩
          simp only [Instr.mapUpdate, Sem.run_bind, run_underlying hu, Result.andThen_ok, AV.conc, zbm hr, hck, hfk]
          exact zcr _ _ _ hr (by simp)
        · cases h
      · cases h
    · cases h
  · cases h
theorem znp [E : Env] (s : Sim P w0 base ι H w) {t : TypeId} {m k v : AV} {H' : Heap} (h : zno P lo H t m k = some (v, H')) (hk : k.OK w0 base H.next) :
    ∃ w', (Instr.mapEntry t (m.conc ι) (k.conc ι)).run P w = .ok (v.conc ι) w' ∧ Post P w0 base lo ι H w ι H' w' ∧ v.OK w0 base H'.next := by
  unfold zno at h
  split at h
  · rename_i kt et b hu
    split at h
    · rename_i es clock z hb hz
      split at h
      · rename_i hc
        simp only [Bool.and_eq_true, decide_eq_true_eq] at hc
        obtain ⟨hlo, hkf⟩ := hc
        obtain ⟨hr, hck, hfound, hnone⟩ := yaq9 s hb hkf
        have hOKes := s.ok b _ hb
        split at h
        · rename_i i y born hf
          cases h
          obtain ⟨hfk, k', hk', he⟩ := hfound i y born hf
          have hyOK := (hOKes _ (List.mem_of_getElem? hk')).2
          have hpost := Post.putObj (lo := lo) s hb (.map (es.set i (k, y, born)) clock) (.map ((zal ι es).setIfInBounds i { key := k.conc ι, val := y.conc ι, born := born }) clock) hlo
            (fun e he => by
              rcases List.mem_or_eq_of_mem_set he with he | rfl
              · exact hOKes e he
              · exact ⟨hk, hyOK⟩) (by simp only [BlkRel]; rw [zfb]; rfl)
          refine ⟨_, ?_, hpost, by simp only [AV.OK, AV.OKL]; exact ⟨hyOK, trivial, trivial⟩⟩
          have hkk : (Instr.keyThatStays (((zal ι es)[i]?.map (·.key)).getD (k.conc ι)) (k.conc ι)).run P w = .ok (k.conc ι) w := by
            rw [he]; exact zti (a := { key := k.conc ι, val := y.conc ι, born := born }) rfl (zho hkf)
          simp only [Instr.mapEntry, Sem.run_bind, run_underlying hu, Result.andThen_ok, AV.conc, zbm hr, hck, hfk, hkk]
          rw [zgb _ _ _ _ he, zcr _ _ _ hr (by simp)]
          simp [he, goInt, AV.concL, AV.conc]
        · rename_i hf
          cases h
          have hfk := hnone hf
          have hzOK : z.OK w0 base H.next := OK.mono (Nat.zero_le _) _ (zf0 hz)
          have hpost := Post.putObj (lo := lo) s hb (.map (es ++ [(k, z, clock)]) (clock + 1)) (.map ((zal ι es).push { key := k.conc ι, val := z.conc ι, born := clock }) (clock + 1)) hlo
            (fun e he => by
              rcases List.mem_append.1 he with he | he
              · exact hOKes e he
              · rw [List.mem_singleton.1 he]; exact ⟨hk, hzOK⟩) (by simp only [BlkRel]; rw [zhd]; rfl)
          refine ⟨_, ?_, hpost, by simp only [AV.OK, AV.OKL]; exact ⟨hzOK, trivial, trivial⟩⟩
          simp only [Instr.mapEntry, Sem.run_bind, run_underlying hu, Result.andThen_ok, AV.conc, zbm hr, hck, hfk, zca hz ι, zcr _ _ _ hr (by simp)]
          simp [goInt, AV.concL, AV.conc]
        · cases h
      · cases h
    · cases h
  · cases h
theorem zkz [E : Env] (s : Sim P w0 base ι H w) {t : TypeId} {m k v : AV} {H' : Heap} (h : zi2 lo H m k v = some H') (hv : v.OK w0 base H.next) :
    ∃ w', (Instr.entryStore t (m.conc ι) (k.conc ι) (v.conc ι)).run P w = .ok () w' ∧ Post P w0 base lo ι H w ι H' w' := by
  unfold zi2 at h
  split at h
  · rename_i b n
    split at h
    · rename_i es clock hb
      split at h
      · rename_i hlo
        split at h
        · rename_i i hi
          split at h
          · rename_i k y born he
            cases h
            have hr := s.rel b _ hb
            simp only [BlkRel] at hr
            have hOKes := s.ok b _ hb
            have hEi : (zal ι es)[i]? = some (zeg ι (k, y, born)) := by rw [ziq, he]; rfl
            have hpost := Post.putObj (lo := lo) s hb (.map (es.set i (k, v, born)) clock) (.map ((zal ι es).setIfInBounds i { key := k.conc ι, val := v.conc ι, born := born }) clock) hlo
              (fun e he' => by
                rcases List.mem_or_eq_of_mem_set he' with he' | rfl
                · exact hOKes e he'
                · exact ⟨(hOKes _ (List.mem_of_getElem? he)).1, hv⟩) (by simp only [BlkRel]; rw [zfb]; rfl)
            refine ⟨_, ?_, hpost⟩
            have hidx : (zal ι es).findIdx? (fun e => (e.born : Int) == n) = some i := by
              rw [← hi]
              simp only [zal, List.findIdx?_toArray, List.findIdx?_map]
              rfl
            simp only [Instr.entryStore, AV.conc, pure_bind, Sem.run_bind, zbm hr, Result.andThen_ok, asInt, asIntOf, hidx]
            rw [zgb _ _ _ _ hEi]
            exact zcr _ _ _ hr (by simp)
          · cases h
        · cases h
      · cases h
    · cases h
  · cases h
def Ev [E : Env] (w0 : World) (base n : Nat) (ι : Inj) (env : EV) (ρ : Operand → Value) (x : Operand) : Prop := ∀ v, zau env x = some v → ρ x = v.conc ι ∧ v.OK w0 base n
theorem zeh [E : Env] {n : Nat} {env : EV} {ρ : Operand → Value} : ∀ (xs : List Operand) (l : List AV), zjo env xs = some l → (∀ x ∈ xs, Ev w0 base n ι env ρ x) →
    xs.map ρ = l.map (AV.conc ι) ∧ ∀ v ∈ l, v.OK w0 base n
  | [], l, h, _ => by simp only [zjo] at h; cases h; exact ⟨rfl, by simp⟩
  | x :: xs, l, h, hE => by
    simp only [zjo] at h
    split at h
    · rename_i v l' hv hl
      cases h
      obtain ⟨h1, h2⟩ := zeh xs l' hl (fun y hy => hE y (by simp [hy]))
      obtain ⟨h3, h4⟩ := hE x (by simp) v hv
      refine ⟨by simp [h1, h3], fun y hy => ?_⟩
      rcases List.mem_cons.1 hy with rfl | hy
      · exact h4
      · exact h2 y hy
    · cases h
theorem zei [E : Env] {n : Nat} {env : EV} {ρ : Operand → Value} : ∀ (xs : List (Nat × Operand)) (l : List (Nat × AV)), zdj env xs = some l → (∀ p ∈ xs, Ev w0 base n ι env ρ p.2) →
    xs.map (fun p => (p.1, ρ p.2)) = l.map (fun p => (p.1, p.2.conc ι)) ∧ ∀ p ∈ l, p.2.OK w0 base n
  | [], l, h, _ => by simp only [zdj] at h; cases h; exact ⟨rfl, by simp⟩
  | (i, x) :: xs, l, h, hE => by
    simp only [zdj] at h
    split at h
    · rename_i v l' hv hl
      cases h
      obtain ⟨h1, h2⟩ := zei xs l' hl (fun y hy => hE y (by simp [hy]))
      obtain ⟨h3, h4⟩ := hE (i, x) (by simp) v hv
      refine ⟨by simp [h1, h3], fun y hy => ?_⟩
      rcases List.mem_cons.1 hy with rfl | hy
      · exact h4
      · exact h2 y hy
    · cases h
def Done [E : Env] (P : Program) (w0 : World) (base lo : Nat) (ι : Inj) (H : Heap) (w : World) (n : Sem Next) (v : AV) (H' : Heap) : Prop :=
  ∃ ι' w', (n.run P w = .ok (.value (v.conc ι')) w' ∨ (v = undefA ∧ n.run P w = .ok .skip w')) ∧ Post P w0 base lo ι H w ι' H' w' ∧ v.OK w0 base H'.next
theorem Done.val [E : Env] {n : Sem Next} {x : Sem Value} {v : AV} (s : Sim P w0 base ι H w) (hn : n = (do pure (.value (← x)))) (h : x.run P w = .ok (v.conc ι) w ∧ v.OK w0 base H.next) : Done P w0 base lo ι H w n v H :=
  ⟨ι, w, .inl (by rw [hn]; simp [h.1]), Post.refl s, h.2⟩
theorem Done.leaf [E : Env] {n : Sem Next} {x : Sem Value} {v : AV} (s : Sim P w0 base ι H w) (hn : n = (do pure (.value (← x)))) (h : x.run P w = .ok (v.conc ι) w ∧ zdf v = true ∧ scal v = true) : Done P w0 base lo ι H w n v H :=
  Done.val s hn ⟨h.1, yapw h.2.2⟩
theorem Done.made [E : Env] {n : Sem Next} {x : Sem Value} {v : AV} {H' : Heap} (hn : n = (do pure (.value (← x))))
    (h : ∃ ι' w', x.run P w = .ok (v.conc ι') w' ∧ Post P w0 base lo ι H w ι' H' w' ∧ v.OK w0 base H'.next) : Done P w0 base lo ι H w n v H' := by
  obtain ⟨ι', w', h1, h2, h3⟩ := h
  exact ⟨ι', w', .inl (by rw [hn]; simp [h1]), h2, h3⟩
theorem Done.unit [E : Env] {n : Sem Next} {x : Sem Unit} {H' : Heap} (hn : n = (do x; pure .skip)) (h : ∃ ι' w', x.run P w = .ok () w' ∧ Post P w0 base lo ι H w ι' H' w') : Done P w0 base lo ι H w n undefA H' := by
  obtain ⟨ι', w', h1, h2⟩ := h
  exact ⟨ι', w', .inr ⟨rfl, by rw [hn]; simp [h1]⟩, h2, by simp [undefA, AV.OK, AV.OKL]⟩
theorem zlr [E : Env] (s : Sim P w0 base ι H w) {t : TypeId} {z : AV} {sz : Nat} (hs : za0 P t = some sz) (hz : z.cells.length = sz) (hOK : z.OK w0 base H.next) (hlo : lo ≤ H.next) :
    ∃ ι' w', (do pure (.pointer (some (← newVar t (z.conc ι)))) : Sem Value).run P w = .ok ((AV.ptr H.next 0).conc ι') w' ∧ Post P w0 base lo ι H w ι' (H.push (.cells t z.cells)) w' ∧ (AV.ptr H.next 0).OK w0 base (H.push (.cells t z.cells)).next := by
  have ha := Post.alloc (lo := lo) s (.cells t z.cells) (.cells (z.conc ι).cells t) 1 (zdy hOK) ⟨_, rfl, ⟨[], by rw [zhx, List.append_nil]⟩, by rw [zh9, hz, za9 hs, Nat.one_mul]⟩ hlo
  refine ⟨_, _, ?_, ha, by simp [AV.OK]⟩
  simp [newVar, newRow, newObj, Sem.run, AV.conc]
theorem zqx [E : Env] {vs : List AV} {i : Nat} {v : AV} (h : vs[i]? = some v) (hok : (AV.tup vs).OK w0 base H.next) : (Instr.extract ((AV.tup vs).conc ι) i).run P w = .ok (v.conc ι) w ∧ v.OK w0 base H.next := by
  simp only [AV.OK] at hok
  refine ⟨?_, (zar ..).1 hok v (List.mem_of_getElem? h)⟩
  simp [Instr.extract, AV.conc, zaz, h]
theorem zbe {α β : Type} {x : Option α} {f : α → Option β} {r : β} (h : x.bind f = some r) : ∃ a, x = some a ∧ f a = some r := by
  cases x with
  | none => simp at h
  | some a => exact ⟨a, rfl, h⟩
theorem zl7 {α β : Type} {x : Option α} {f : α → β} {r : β} (h : x.map f = some r) : ∃ a, x = some a ∧ f a = r := Option.map_eq_some_iff.1 h
set_option maxHeartbeats 4000000 in
theorem yabu [E : Env] (s : Sim P w0 base ι H w) {env : EV} {o : Oper} {v : AV} {H' : Heap} (h : aop P lo env H o = some (v, H')) (ρ : Operand → Value)
    (hE : ∀ x ∈ o.op.operands, Ev w0 base H.next ι env ρ x) (hlo : lo ≤ H.next) : Done P w0 base lo ι H w (execOp ρ o) v H' := by
  obtain ⟨dst, op, type, pos, after, guard⟩ := o
  simp only at hE
  cases op with
  | move x =>
    obtain ⟨a, ha, e⟩ := zl7 h; cases e
    obtain ⟨h1, h2⟩ := hE x (by simp [Op.operands]) v ha
    exact ⟨ι, w, .inl (by simp [execOp, h1]), Post.refl s, h2⟩
  | assign x =>
    obtain ⟨a, ha, e⟩ := zl7 h; cases e
    obtain ⟨h1, h2⟩ := hE x (by simp [Op.operands]) v ha
    exact ⟨ι, w, .inl (by simp [execOp, h1]), Post.refl s, h2⟩
  | pick c a b =>
    simp only [aop] at h
    split at h
    · rename_i t hc
      obtain ⟨x, hx, e⟩ := zl7 h; cases e
      obtain ⟨h1, _⟩ := hE c (by simp [Op.operands]) _ hc
      have h1' : ρ c = .bool t := by rw [h1]; rfl
      cases t
      · simp only [Bool.false_eq_true, if_false] at hx
        obtain ⟨h3, h4⟩ := hE b (by simp [Op.operands]) _ hx
        exact ⟨ι, w, .inl (by simp [execOp, h1', asBool, h3]), Post.refl s, h4⟩
      · simp only [if_true] at hx
        obtain ⟨h3, h4⟩ := hE a (by simp [Op.operands]) _ hx
        exact ⟨ι, w, .inl (by simp [execOp, h1', asBool, h3]), Post.refl s, h4⟩
    · cases h
  | alloc t =>
    simp only [aop] at h
    cases hz : zd8 P t with
    | none => simp [hz] at h
    | some z =>
      cases hs : za0 P t with
      | none => simp [hz, hs] at h
      | some sz =>
        simp only [hz, hs] at h
        split at h
        · rename_i hc
          simp only [Bool.and_eq_true, decide_eq_true_eq] at hc
          cases h
          obtain ⟨ι', w', h1, h2, h3⟩ := zlr (lo := lo) s hs hc.1 (OK.mono (Nat.zero_le _) _ (zf0 hz)) hlo
          refine ⟨ι', w', .inl ?_, h2, h3⟩
          simp only [Sem.run_bind, Sem.run_pure] at h1
          simp only [execOp, Instr.alloc, Sem.run_bind, zca hz ι, Result.andThen_ok, Sem.run_pure]
          rw [h1]; rfl
        · cases h
  | box t x =>
    simp only [aop] at h
    cases hx : zau env x with
    | none => simp [hx] at h
    | some z =>
      cases hs : za0 P t with
      | none => simp [hx, hs] at h
      | some sz =>
        simp only [hx, hs] at h
        split at h
        · rename_i hc
          simp only [Bool.and_eq_true, decide_eq_true_eq] at hc
          cases h
          obtain ⟨e1, e2⟩ := hE x (by simp [Op.operands]) z hx
          obtain ⟨ι', w', h1, h2, h3⟩ := zlr (lo := lo) s hs hc.1 e2 hlo
          refine ⟨ι', w', .inl ?_, h2, h3⟩
          simp only [Sem.run_bind, Sem.run_pure] at h1
          simp only [execOp, Instr.box, Sem.run_bind, e1, Sem.run_pure]
          rw [h1]; rfl
        · cases h
  | build t parts =>
    obtain ⟨ps, hps, h⟩ := zbe h
    obtain ⟨a, ha, e⟩ := zl7 h; cases e
    obtain ⟨e1, e2⟩ := zei (ι := ι) (ρ := ρ) parts.toList ps hps (fun p hp => hE p.2 (by simp [Op.operands]; exact ⟨p.1, by simpa using hp⟩))
    have := zsm (ι := ι) (w := w) ha e2
    rw [← e1] at this
    refine Done.val s (x := Instr.build t (parts.map fun (i, x) => (i, ρ x))) rfl ?_
    have e3 : (parts.map fun (i, x) => (i, ρ x)) = (parts.toList.map fun p => (p.1, ρ p.2)).toArray := by apply Array.ext'; simp
    rw [e3]; exact this
  | buildSlice t len parts =>
    obtain ⟨ps, hps, h⟩ := zbe h
    obtain ⟨e1, e2⟩ := zei (ι := ι) (ρ := ρ) parts.toList ps hps (fun p hp => hE p.2 (by simp [Op.operands]; exact ⟨p.1, by simpa using hp⟩))
    have := zkv (lo := lo) s h e2 hlo
    rw [← e1] at this
    refine Done.made (x := Instr.buildSlice t len (parts.map fun (i, x) => (i, ρ x))) rfl ?_
    have e3 : (parts.map fun (i, x) => (i, ρ x)) = (parts.toList.map fun p => (p.1, ρ p.2)).toArray := by apply Array.ext'; simp
    rw [e3]; exact this
  | load t a =>
    obtain ⟨x, hx, h⟩ := zbe h
    obtain ⟨y, hy, e⟩ := zl7 h; cases e
    obtain ⟨e1, e2⟩ := hE a (by simp [Op.operands]) x hx
    obtain ⟨A, hA, h1, h2⟩ := znm s hy e2
    refine Done.val s (x := Instr.loadAt t (ρ a)) rfl ⟨?_, h2⟩
    rw [e1, hA]; simp [Instr.loadAt, Instr.sureAddr, h1]
  | store t a x =>
    obtain ⟨p, hp, h⟩ := zbe h
    obtain ⟨y, hy, h⟩ := zbe h
    obtain ⟨H1, hH, e⟩ := zl7 h; cases e
    obtain ⟨e1, e2⟩ := hE a (by simp [Op.operands]) p hp
    obtain ⟨e3, e4⟩ := hE x (by simp [Op.operands]) y hy
    unfold yafs at hH
    cases hs : za0 P t with
    | none => simp [hs] at hH
    | some sz =>
      simp only [hs] at hH
      split at hH
      · rename_i hl
        obtain ⟨A, w', hA, h1, h2⟩ := zfx s hH (zdy e4)
        refine Done.unit (x := Instr.storeAt t (ρ a) (ρ x)) rfl ⟨ι, w', ?_, h2⟩
        rw [e1, e3, hA]
        have hl' : (y.conc ι).cells.size = sz := by rw [zh9, hl]
        simp only [Instr.storeAt, Instr.sureAddr, pure_bind, storeVar, Sem.run_bind, zax hs, Result.andThen_ok, hl', ne_eq, not_true, if_false, zhx]
        exact h1
      · cases hH
  | nilCheck x =>
    simp only [aop] at h
    split at h <;> cases h <;> (rename_i hx; obtain ⟨e1, e2⟩ := hE x (by simp [Op.operands]) _ hx; refine ⟨ι, w, .inl ?_, Post.refl s, e2⟩; simp [execOp, e1, AV.conc])
  | binOp op t x y yt =>
    obtain ⟨a, ha, h⟩ := zbe h
    obtain ⟨b, hb, h⟩ := zbe h
    obtain ⟨c, hc, e⟩ := zl7 h; cases e
    obtain ⟨e1, _⟩ := hE x (by simp [Op.operands]) a ha
    obtain ⟨e3, _⟩ := hE y (by simp [Op.operands]) b hb
    refine Done.leaf s (x := (do eqGuard op t x y (ρ x) (ρ y); binOp op t (ρ x) (ρ y))) rfl ?_
    rw [e1, e3]; exact zzj hc x y
  | unOp op t x =>
    obtain ⟨a, ha, h⟩ := zbe h
    obtain ⟨c, hc, e⟩ := zl7 h; cases e
    obtain ⟨e1, _⟩ := hE x (by simp [Op.operands]) a ha
    refine Done.leaf s (x := Op.unary op (ρ x)) rfl ?_
    rw [e1]; exact yaf3 hc
  | convert src dst' x =>
    obtain ⟨a, ha, h⟩ := zbe h
    obtain ⟨e1, e2⟩ := hE x (by simp [Op.operands]) a ha
    refine Done.made (x := Go.convert src dst' (ρ x)) rfl ?_
    rw [e1]
    unfold zhy at h
    split at h
    · rename_i sd k k' n hsd hdd
      cases h
      exact ⟨ι, w, by simp [Go.convert, run_underlying hsd, run_underlying hdd, AV.conc, Conv.intToInt], Post.refl s, trivial⟩
    · rename_i b hsd hdd
      cases h
      exact ⟨ι, w, by simp [Go.convert, run_underlying hsd, run_underlying hdd, AV.conc], Post.refl s, trivial⟩
    · rename_i a _ _ _ e hsd hdd
      have hx : (∃ a' c s l, a = .rsl a' c s l) ∨ ∃ b i n s, a = .sl b i n s := by
        cases a <;> simp only at h <;> first | (cases h; done) | exact .inl ⟨_, _, _, _, rfl⟩ | exact .inr ⟨_, _, _, _, rfl⟩
      have h' : (if isU8 P e then match zb5 H 1 a, zl4 H a with
        | some cs, some n => if cs.length = n then (match zd0 cs with | some l => some (AV.str ⟨l.toArray⟩, H) | none => none) else none
        | _, _ => none
      else none) = some (v, H') := by
        rcases hx with ⟨_, _, _, _, rfl⟩ | ⟨_, _, _, _, rfl⟩ <;> exact h
      split at h'
      · rename_i hu8
        have he8 : P.underlying e = some (.int .u8) := by
          unfold isU8 at hu8
          split at hu8
          · rename_i q; exact q
          · cases hu8
        split at h'
        · rename_i cs n hcs hn
          split at h'
          · rename_i hl
            split at h'
            · rename_i l hb
              cases h'
              refine ⟨ι, w, ?_, Post.refl s, trivial⟩
              have := zkw s hx hcs hn hl hb e2
              rcases hx with ⟨_, _, _, _, rfl⟩ | ⟨_, _, _, _, rfl⟩
              · simp only [AV.conc] at this ⊢; rw [run_convert_bytes_string w src dst' e _ _ _ hsd he8 hdd, this]
              · simp only [AV.conc] at this ⊢; rw [run_convert_bytes_string w src dst' e _ _ _ hsd he8 hdd, this]
            · cases h'
          · cases h'
        · cases h'
      · cases h'
    · cases h
  | makeInterface t x =>
    simp only [aop] at h
    cases hu : P.underlying t with
    | none => simp [hu] at h
    | some d =>
      have hni : ∀ ms, d ≠ .interface ms := fun ms e => by subst e; simp [hu] at h
      have h' : ((zau env x).map (AV.iface t)).map (fun v => (v, H)) = some (v, H') := by
        rw [hu] at h
        cases d <;> first | exact h | exact absurd rfl (hni _)
      obtain ⟨y, hy, e⟩ := zl7 h'; cases e
      obtain ⟨a, ha, e⟩ := zl7 hy; subst e
      obtain ⟨e1, e2⟩ := hE x (by simp [Op.operands]) a ha
      refine Done.val s (x := Instr.makeInterface t (ρ x)) rfl ⟨?_, by simpa only [AV.OK] using e2⟩
      rw [e1]
      simp only [Instr.makeInterface, Sem.run_bind, run_underlying hu, Result.andThen_ok]
      cases d <;> first | rfl | exact absurd rfl (hni _)
  | makeFunc fn first cap =>
    simp only [aop] at h
    cases fn with
    | func f =>
      simp only [] at h
      obtain ⟨a, ha, h⟩ := zbe h
      obtain ⟨b, hb, h⟩ := zbe h
      cases h
      obtain ⟨e1, e2⟩ := zeh (ι := ι) (ρ := ρ) first.toList a ha (fun y hy => hE y (by simp [Op.operands]; exact .inl (by simpa using hy)))
      obtain ⟨e3, e4⟩ := zeh (ι := ι) (ρ := ρ) cap.toList b hb (fun y hy => hE y (by simp [Op.operands]; exact .inr (by simpa using hy)))
      refine Done.val s (x := Instr.makeFunc (.func f) (first.map ρ) (cap.map ρ)) rfl ⟨?_, by simp only [AV.OK]; exact ⟨(zar ..).2 e2, (zar ..).2 e4⟩⟩
      have e5 : first.map ρ = (a.map (AV.conc ι)).toArray := by rw [← e1]; apply Array.ext'; simp
      have e6 : cap.map ρ = (b.map (AV.conc ι)).toArray := by rw [← e3]; apply Array.ext'; simp
      simp [Instr.makeFunc, AV.conc, zaz, e5, e6]
    | _ => simp at h
  | makeMap t r =>
    have hnew : ∃ ι' w', (do pure (.map (some (← newObj (.map #[] 0)))) : Sem Value).run P w = .ok ((AV.map (some H.next)).conc ι') w' ∧ Post P w0 base lo ι H w ι' (H.push (.map [] 0)) w' ∧ (AV.map (some H.next)).OK w0 base (H.push (.map [] 0)).next := by
      have ha := Post.alloc (lo := lo) s (.map [] 0) (.map #[] 0) 0 (by intro e he; simp at he) (by simp [BlkRel, zal]) hlo
      refine ⟨_, _, ?_, ha, by simp [AV.OK]⟩
      simp [newObj, Sem.run, AV.conc]
    obtain ⟨ι', w', h1, h2, h3⟩ := hnew
    simp only [Sem.run_bind, Sem.run_pure] at h1
    cases r with
    | none =>
      simp only [aop] at h
      cases h
      refine ⟨ι', w', .inl ?_, h2, h3⟩
      simp only [execOp, Instr.makeMap, Option.map_none, Sem.run_bind, Sem.run_pure]
      rw [h1]; rfl
    | some x =>
      simp only [aop] at h
      split at h
      · rename_i kt et k n hu hx
        cases h
        obtain ⟨e1, _⟩ := hE x (by simp [Op.operands]) _ hx
        refine ⟨ι', w', .inl ?_, h2, h3⟩
        simp only [execOp, Instr.makeMap, Option.map_some, Sem.run_bind, run_underlying hu, Result.andThen_ok, e1, AV.conc, asInt, asIntOf, pure_bind, Sem.run_pure]
        rw [h1]; rfl
      · cases h
  | makeSlice t l c =>
    obtain ⟨a, ha, h⟩ := zbe h
    obtain ⟨b, hb, h⟩ := zbe h
    obtain ⟨e1, _⟩ := hE l (by simp [Op.operands]) a ha
    obtain ⟨e3, _⟩ := hE c (by simp [Op.operands]) b hb
    refine Done.made (x := Instr.makeSlice t (ρ l) (ρ c)) rfl ?_
    rw [e1, e3]; exact zl6 s h hlo
  | slice t x l hi mx =>
    simp only [aop] at h
    cases mx with
    | some m => simp at h
    | none =>
      simp only [] at h
      obtain ⟨a, ha, h⟩ := zbe h
      obtain ⟨e1, e2⟩ := hE x (by simp [Op.operands]) a ha
      have hopt : ∀ (q : Option Operand), (∀ y ∈ q.toArray, Ev w0 base H.next ι env ρ y) → q.map (zau env) ≠ some none → q.map ρ = ((q.map (zau env)).bind id).map (AV.conc ι) := by
        intro q hq hn
        cases q with
        | none => rfl
        | some y =>
          cases hy : zau env y with
          | none => simp [hy] at hn
          | some u =>
            have := hq y (by simp) u hy
            simp [this.1, hy]
      have hl : l.map (zau env) ≠ some none := by
        intro e; rw [e] at h; simp at h
      have hh : hi.map (zau env) ≠ some none := by
        intro e; rw [e] at h
        cases hl2 : l.map (zau env) with
        | none => simp [hl2] at h
        | some q => cases q <;> simp [hl2] at h
      have h' : (zda P H t a ((l.map (zau env)).bind id) ((hi.map (zau env)).bind id)).map (fun v => (v, H)) = some (v, H') := by
        cases hl2 : l.map (zau env) with
        | none =>
          cases hh2 : hi.map (zau env) with
          | none => simpa [hl2, hh2] using h
          | some q => cases q with
            | none => exact absurd hh2 hh
            | some q => simpa [hl2, hh2] using h
        | some q => cases q with
          | none => exact absurd hl2 hl
          | some q =>
            cases hh2 : hi.map (zau env) with
            | none => simpa [hl2, hh2] using h
            | some q => cases q with
              | none => exact absurd hh2 hh
              | some q => simpa [hl2, hh2] using h
      obtain ⟨y, hy, e⟩ := zl7 h'; cases e
      have := zuj (ι := ι) s hy e2
      rw [← hopt l (fun y hy => hE y (by simp [Op.operands] at hy ⊢; simp [hy])) hl, ← hopt hi (fun y hy => hE y (by simp [Op.operands] at hy ⊢; simp [hy])) hh] at this
      refine Done.val s (x := Instr.sliceAt t (ρ x) (l.map ρ) (hi.map ρ) none) rfl ⟨?_, this.2⟩
      rw [e1]; exact this.1
  | fieldAddr t x i =>
    obtain ⟨a, ha, h⟩ := zbe h
    obtain ⟨c, hc, e⟩ := zl7 h; cases e
    obtain ⟨e1, e2⟩ := hE x (by simp [Op.operands]) a ha
    refine Done.val s (x := Instr.fieldAt t (ρ x) i) rfl ?_
    rw [e1]; exact zl1 hc e2
  | field t x i =>
    obtain ⟨a, ha, h⟩ := zbe h
    obtain ⟨c, hc, e⟩ := zl7 h; cases e
    obtain ⟨e1, e2⟩ := hE x (by simp [Op.operands]) a ha
    refine Done.val s (x := Instr.field t (ρ x) i) rfl ?_
    rw [e1]; exact zsz hc e2
  | indexAddr t x i =>
    obtain ⟨a, ha, h⟩ := zbe h
    obtain ⟨b, hb, h⟩ := zbe h
    obtain ⟨c, hc, e⟩ := zl7 h; cases e
    obtain ⟨e1, e2⟩ := hE x (by simp [Op.operands]) a ha
    obtain ⟨e3, _⟩ := hE i (by simp [Op.operands]) b hb
    refine Done.val s (x := Instr.indexAt t (ρ x) (ρ i)) rfl ?_
    rw [e1, e3]; exact zl3 hc e2
  | index t x i =>
    obtain ⟨a, ha, h⟩ := zbe h
    obtain ⟨b, hb, h⟩ := zbe h
    obtain ⟨c, hc, e⟩ := zl7 h; cases e
    obtain ⟨e1, e2⟩ := hE x (by simp [Op.operands]) a ha
    obtain ⟨e3, _⟩ := hE i (by simp [Op.operands]) b hb
    refine Done.val s (x := Instr.index t (ρ x) (ρ i)) rfl ?_
    rw [e1, e3]; exact ztf hc e2
  | lookup t x i ok =>
    obtain ⟨a, ha, h⟩ := zbe h
    obtain ⟨b, hb, h⟩ := zbe h
    obtain ⟨c, hc, e⟩ := zl7 h; cases e
    obtain ⟨e1, e2⟩ := hE x (by simp [Op.operands]) a ha
    obtain ⟨e3, _⟩ := hE i (by simp [Op.operands]) b hb
    refine Done.val s (x := Instr.lookup t (ρ x) (ρ i) ok) rfl ?_
    rw [e1, e3]; exact zrc s hc
  | mapUpdate t m k x =>
    obtain ⟨a, ha, h⟩ := zbe h
    obtain ⟨b, hb, h⟩ := zbe h
    obtain ⟨c, hc, h⟩ := zbe h
    obtain ⟨H1, hH, e⟩ := zl7 h; cases e
    obtain ⟨e1, _⟩ := hE m (by simp [Op.operands]) a ha
    obtain ⟨e3, e4⟩ := hE k (by simp [Op.operands]) b hb
    obtain ⟨e5, e6⟩ := hE x (by simp [Op.operands]) c hc
    obtain ⟨w', h1, h2⟩ := zgl s hH e4 e6
    exact Done.unit (x := Instr.mapUpdate t (ρ m) (ρ k) (ρ x)) rfl ⟨ι, w', by rw [e1, e3, e5]; exact h1, h2⟩
  | insert t m k x =>
    obtain ⟨a, ha, h⟩ := zbe h
    obtain ⟨b, hb, h⟩ := zbe h
    obtain ⟨c, hc, h⟩ := zbe h
    obtain ⟨H1, hH, e⟩ := zl7 h; cases e
    obtain ⟨e1, _⟩ := hE m (by simp [Op.operands]) a ha
    obtain ⟨e3, e4⟩ := hE k (by simp [Op.operands]) b hb
    obtain ⟨e5, e6⟩ := hE x (by simp [Op.operands]) c hc
    obtain ⟨w', h1, h2⟩ := zgl s hH e4 e6
    exact Done.unit (x := Instr.mapUpdate t (ρ m) (ρ k) (ρ x)) rfl ⟨ι, w', by rw [e1, e3, e5]; exact h1, h2⟩
  | mapEntry t m k =>
    obtain ⟨a, ha, h⟩ := zbe h
    obtain ⟨b, hb, h⟩ := zbe h
    obtain ⟨e1, _⟩ := hE m (by simp [Op.operands]) a ha
    obtain ⟨e3, e4⟩ := hE k (by simp [Op.operands]) b hb
    obtain ⟨w', h1, h2, h3⟩ := znp s h e4
    exact Done.made (x := Instr.mapEntry t (ρ m) (ρ k)) rfl ⟨ι, w', by rw [e1, e3]; exact h1, h2, h3⟩
  | entryStore t m k x =>
    obtain ⟨a, ha, h⟩ := zbe h
    obtain ⟨b, hb, h⟩ := zbe h
    obtain ⟨c, hc, h⟩ := zbe h
    obtain ⟨H1, hH, e⟩ := zl7 h; cases e
    obtain ⟨e1, _⟩ := hE m (by simp [Op.operands]) a ha
    obtain ⟨e3, e4⟩ := hE k (by simp [Op.operands]) b hb
    obtain ⟨e5, e6⟩ := hE x (by simp [Op.operands]) c hc
    obtain ⟨w', h1, h2⟩ := zkz (t := t) s hH e6
    exact Done.unit (x := Instr.entryStore t (ρ m) (ρ k) (ρ x)) rfl ⟨ι, w', by rw [e1, e3, e5]; exact h1, h2⟩
  | extract x i =>
    simp only [aop] at h
    split at h
    · rename_i vs hx
      obtain ⟨c, hc, e⟩ := zl7 h; cases e
      obtain ⟨e1, e2⟩ := hE x (by simp [Op.operands]) _ hx
      refine Done.val s (x := Instr.extract (ρ x) i) rfl ?_
      rw [e1]; exact zqx hc e2
    · cases h
  | call c =>
    obtain ⟨callee, args, argTypes⟩ := c
    cases callee with
    | value f => simp [aop] at h
    | invoke r m => simp [aop] at h
    | builtin b =>
      simp only [aop] at h
      obtain ⟨vs, hvs, h⟩ := zbe h
      obtain ⟨e1, e2⟩ := zeh (ι := ι) (ρ := ρ) args.toList vs hvs (fun y hy => hE y (by simp [Op.operands, Call.operands]; simpa using hy))
      have e3 : args.map ρ = (vs.map (AV.conc ι)).toArray := by rw [← e1]; apply Array.ext'; simp
      cases b with
      | len =>
        rcases vs with _ | ⟨x, _ | ⟨y, rest⟩⟩ <;> simp only [] at h <;> try (cases h; done)
        obtain ⟨y, hy, e⟩ := zl7 h; cases e
        obtain ⟨n, hn, e⟩ := zl7 hy; subst e
        refine ⟨ι, w, .inl ?_, Post.refl s, trivial⟩
        simp only [execOp, resolve, pure_bind, invoke, builtin, e3]
        have := zv3 s hn argTypes rfl type
        simp only [List.map_cons, List.map_nil, Sem.run_bind, this, Result.andThen_ok, Sem.run_pure, AV.conc]
      | append =>
        rcases vs with _ | ⟨a, _ | ⟨x, _ | ⟨y, rest⟩⟩⟩ <;> simp only [] at h <;> try (cases h; done)
        obtain ⟨ι', w', h1, h2, h3⟩ := zqi s h argTypes rfl rfl type (e2 a (by simp)) (e2 x (by simp)) hlo
        refine ⟨ι', w', .inl ?_, h2, h3⟩
        simp only [execOp, resolve, pure_bind, invoke, builtin, e3]
        simp only [List.map_cons, List.map_nil, Sem.run_bind, h1, Result.andThen_ok, Sem.run_pure]
      | copy =>
        rcases vs with _ | ⟨d, _ | ⟨x, _ | ⟨y, rest⟩⟩⟩ <;> simp only [] at h <;> try (cases h; done)
        obtain ⟨w', h1, h2, h3⟩ := zvn s h argTypes rfl type (e2 d (by simp)) (e2 x (by simp))
        refine ⟨ι, w', .inl ?_, h2, h3⟩
        simp only [execOp, resolve, pure_bind, invoke, builtin, e3]
        simp only [List.map_cons, List.map_nil, Sem.run_bind, h1, Result.andThen_ok, Sem.run_pure]
      | max =>
        rcases vs with _ | ⟨x, rest⟩ <;> simp only [] at h <;> try (cases h; done)
        obtain ⟨y, hy, e⟩ := zl7 h; cases e
        obtain ⟨h1, h2⟩ := zpz (P := P) (ι := ι) (w := w) rest x v hy
        refine ⟨ι, w, .inl ?_, Post.refl s, ?_⟩
        · simp only [execOp, resolve, pure_bind, invoke, builtin, e3, Builtin.max_]
          simp only [List.map_cons, Sem.run_bind, h1, Result.andThen_ok, Sem.run_pure]
        · rcases h2 with rfl | ⟨k, n, rfl⟩
          · exact e2 _ (by simp)
          · trivial
      | min =>
        rcases vs with _ | ⟨x, rest⟩ <;> simp only [] at h <;> try (cases h; done)
        obtain ⟨y, hy, e⟩ := zl7 h; cases e
        obtain ⟨h1, h2⟩ := zp0 (P := P) (ι := ι) (w := w) rest x v hy
        refine ⟨ι, w, .inl ?_, Post.refl s, ?_⟩
        · simp only [execOp, resolve, pure_bind, invoke, builtin, e3, Builtin.min_]
          simp only [List.map_cons, Sem.run_bind, h1, Result.andThen_ok, Sem.run_pure]
        · rcases h2 with rfl | ⟨k, n, rfl⟩
          · exact e2 _ (by simp)
          · trivial
      | _ => rcases vs with _ | ⟨x, _ | ⟨y, _ | ⟨z, rest⟩⟩⟩ <;> simp at h
  | _ => simp [aop] at h
end
end Go.Ab
