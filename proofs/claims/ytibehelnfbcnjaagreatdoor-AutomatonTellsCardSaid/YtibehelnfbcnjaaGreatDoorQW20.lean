/- What the law's proof leans on, part 46. Conditions: in each statement. -/
import Derived.Test.YtibehelnfbcnjaaGreatDoorQW19
set_option linter.all false
set_option linter.unusedSimpArgs false
set_option linter.unusedVariables false
set_option linter.unusedSectionVars false
namespace Go.Ab
open Go Go.RowKit
section
variable {P : Program} {w0 : World} {base : Nat} {ι ι0 ι1 ι2 : Inj} {H H1 H2 : Heap} {w w00 w1 w2 : World} {ex : ExF}
variable {ops : Array Oper} {bef : Array Nat} {m : Nat} {W : Nat → List Nat} {e : Nat → EV} {h : Nat → Heap} {kp : Nat → List (Nat × Nat × Nat)} {val : Nat → AV} {marks : List Nat} {D : Nat → Bool} {a : Act}
theorem LT.vals [E : Env] (T : LT P ex ops bef m W e h kp val) (hOKe : ∀ v ∈ vals (e 0).s, v.OK w0 base (h 0).next) (hv : ∀ i, decide (i < m) = true → (val i).OK w0 base (h (i + 1)).next) {n : Nat} (hn : ∀ j, j ≤ m → (h j).next ≤ n) : ∀ i, i ≤ m → ∀ v ∈ Go.Ab.vals (e i).s, v.OK w0 base n
  | 0, _ => fun v h' => OK.mono (hn 0 (Nat.zero_le _)) v (hOKe v h')
  | i + 1, hi => by
    intro v h'
    obtain ⟨o, ho, _, he⟩ := T.step i (by omega)
    rw [he] at h'
    cases hd : o.dst with
    | none => rw [hd] at h'; exact LT.vals T hOKe hv hn i (by omega) v h'
    | some d =>
      rw [hd] at h'
      rcases zrt h' with rfl | h'
      · exact OK.mono (hn (i + 1) hi) _ (hv i (decide_eq_true hi))
      · exact LT.vals T hOKe hv hn i (by omega) v h'
theorem IL.needs [E : Env] (T : LT P ex ops bef m W e h kp val) (hr : ze5 ops bef = true) (hbits : ∀ i j, (bef.getD i 0).testBit j = true → j < i) (hOKe : ∀ v ∈ vals (e 0).s, v.OK w0 base (h 0).next)
    (I : IL P w0 base ι0 w00 marks ops bef m W e h val kp D ι w a) {i : Nat} (hi : i < m) (hDi : D i = false) (hpre : ∀ j, (bef.getD i 0).testBit j = true → D j = true) {o : Oper} (ho : ops[i]? = some o) :
    ∀ t ∈ needs ops o, ∀ v, (e i).look t = some v → a.tmps[t]? = some (v.conc ι) ∧ v.OK w0 base (h i).next := by
  intro t ht v hv
  have W : ∀ j, j < m → j ≠ i → zgn ops j = some t → (bef.getD i 0).testBit j = true ∨ (bef.getD j 0).testBit i = true := by
    intro j hj hne hd
    obtain ⟨oj, hoj, _⟩ := T.step j hj
    have hdoj : oj.dst = some t := by simpa [zgn, hoj] using hd
    cases hb1 : (bef.getD i 0).testBit j with
    | true => exact .inl rfl
    | false =>
      cases hb2 : (bef.getD j 0).testBit i with
      | true => exact .inr rfl
      | false => exact absurd ht (zkg hr hoj ho hne hb2 hb1 t hdoj).1
  have v1 : zlc ops (e 0) val D m t = zlc ops (e 0) val D i t := yaf7 D (e 0) t i m (by omega) (fun j h1 h2 hj hd => by
    have hji : j ≠ i := fun q => by rw [q, hDi] at hj; cases hj
    rcases W j h2 hji hd with hb | hb
    · have := hbits i j hb; omega
    · rw [I.dc j hj i hb] at hDi; cases hDi)
  have v2 : zlc ops (e 0) val D i t = zlc ops (e 0) val (fun _ => true) i t := zkp (e 0) t _ _ i (fun j hj hd => by
    rcases W j (by omega) (by omega) hd with hb | hb
    · exact hpre j hb
    · have := hbits j i hb; omega)
  have he := (T.env i (by omega)).2 t
  rw [he, ← v2] at hv
  refine ⟨I.tm t v (by rw [v1]; exact hv), ?_⟩
  rcases zld (e 0) D t i v hv with hm | ⟨j, h1, h2, rfl⟩
  · exact OK.mono (T.mono 0 i (by omega) (by omega)) v (hOKe v hm)
  · exact OK.mono (T.mono (j + 1) i (by omega) (by omega)) _ (I.vok j h2)
theorem IL.step [E : Env] (hN : Names P) (hS : zks P ex) (hb : base ≤ w0.heap.size) (gl : zlg w0 base) (T : LT P ex ops bef m W e h kp val) (hr : ze5 ops bef = true) (hbits : ∀ i j, (bef.getD i 0).testBit j = true → j < i) (hOKe : ∀ v ∈ vals (e 0).s, v.OK w0 base (h 0).next)
    (hOK0 : ∀ b x, (h 0).get b = some x → BlkOK w0 base (h 0).next x ∧ b < (h 0).next)
    (I : IL P w0 base ι0 w00 marks ops bef m W e h val kp D ι w a) (hmk : ∀ b ∈ marks, b < (h 0).next) (hlo : 0 ≤ (h 0).next) {i : Nat} (hi : i < m) (hDi : D i = false) (hpre : ∀ j, (bef.getD i 0).testBit j = true → D j = true) (c : RC) (rest : List Nat) (k : List Item) (cs : List Frame) :
    ∃ ι' w' a', IL P w0 base ι0 w00 marks ops bef m W e h val kp (fun j => if j = i then true else D j) ι' w' a' ∧ Steps P (lone (F c a (.inRegion ops (i :: rest) :: k)) cs w) (lone (F c a' (.inRegion ops rest :: k)) cs w') := by
  obtain ⟨o, ho, hq, he⟩ := T.step i hi
  have hneeds := I.needs T hr hbits hOKe hi hDi hpre ho
  have hdst : zgn ops i = o.dst := by simp [zgn, ho]
  have hev : ∀ x ∈ o.op.operands, Ev w0 base (h i).next ι (e i) a.eval x := by
    intro x hx v hv
    cases x with
    | tmp t =>
      exact (hneeds t (List.mem_append.2 (.inl (List.mem_filterMap.2 ⟨.tmp t, by simpa using hx, rfl⟩))) v hv).imp (fun h1 => by simp only [Act.eval]; rw [Array.getD_eq_getD_getElem?, h1]; rfl) id
    | const v' => exact ⟨(zk4 ι hv).symm, OK.mono (Nat.zero_le _) v (zrh hv)⟩
    | global g =>
      obtain ⟨h1, h2⟩ := gl g v hv
      exact ⟨(h2 ι).symm, OK.mono (Nat.zero_le _) v h1⟩
    | func f => simp only [zau, Option.some.injEq] at hv; subst hv; simp [Act.eval, AV.conc, AV.concL, AV.OK, AV.OKL]
  have hwant : ∀ b, zle ops (e i) o = some b → Region.wanted o (yielded ops a.tmps) = b := fun b hb =>
    zw0 (fun t v ⟨j, g, h1, h2⟩ hv => (hneeds t (List.mem_append.2 (.inr (by rw [h1]; simp [h2]))) v hv).1) hb
  have hlt := T.lt (fun b x hx => (hOK0 b x hx).2)
  have hkn : (zbw (h i) (hl W bef m h kp i)).next = (h i).next := zh2 _ _
  have hview : ∀ b x, (zbw (h i) (hl W bef m h kp i)).get b = some x → zgk W ops e h D m b = some x ∧ b < (h i).next := by
    intro b x hx
    rw [zbs] at hx
    split at hx
    · cases hx
    · rename_i hnv
      have hb := hlt i (by omega) b x hx
      exact ⟨by rw [I.view T hbits hi hDi hpre hb hnv]; exact hx, hb⟩
  have sV : Sim P w0 base ι (zbw (h i) (hl W bef m h kp i)) w :=
    { below := I.below, hb := hb, gl := gl, inj := fun b b' x x' hx hx' => I.inj b b' x x' (hview b x hx).1 (hview b' x' hx').1, lt := fun b x hx => by rw [hkn]; exact (hview b x hx).2,
      lo := fun b x hx => I.lob b x (hview b x hx).1, rel := fun b x hx => I.rel b x (hview b x hx).1,
      ok := fun b x hx => by
        rw [hkn]
        have hL := (hview b x hx).1
        rcases zfk m hL with ⟨h1, h2⟩ | ⟨j, h1, h2, h3, h4⟩
        · exact (hOK0 b x h2).1.mono (T.mono 0 i (by omega) (by omega))
        · have haf := h3
          have hji : j < i := by
            have hne : j ≠ i := by rintro rfl; rw [h2] at hDi; cases hDi
            have hnv : b ∉ hl W bef m h kp i := by
              intro hh; rw [zbs, if_pos hh] at hx; cases hx
            rcases T.ordered hi h1 hne (hview b x hx).2 hnv haf with k | k
            · exact hbits i j k
            · rw [I.dc j h2 i k] at hDi; cases hDi
          exact (I.bok j b x h2 haf h4).1.mono (T.mono (j + 1) i (by omega) (by omega)) }
  rcases hq with ⟨hw, hv, h1, h2⟩ | ⟨hw, V, hop, hok, h1, h2⟩
  ·
    have hsk := zul (P := P) (c := c) (a := a) (k := k) (cs := cs) (w := w) (ops := ops) (i := i) (rest := rest) (by rw [ho]; simp [hwant _ hw])
    rw [ho] at hsk
    simp only [Option.bind_some] at hsk
    have hna : ∀ b, ¬ Af W ops e h i b := by
      rintro b ⟨o', ho', hw', _⟩
      rw [ho] at ho'; cases ho'
      rw [hw] at hw'; cases hw'
    obtain ⟨ι', hI⟩ := I.next T hr hbits hOKe hOK0 hmk hlo hi hDi hpre (V := zbw (h i) (hl W bef m h kp i)) (ι1 := ι) (w1 := w) (by rw [hkn, h1]) (fun b hb => absurd hb (hna b)) (fun b hb hnv _ => by rw [zbs, if_neg hnv])
      (by rw [hv]; simp [undefA, AV.all, AV.allL]) (fun b x hb => absurd hb (hna b)) (by rw [hv]; simp [undefA, AV.OK, AV.OKL]) (Post.refl sV)
    rw [hdst, hv, zlb] at hI
    exact ⟨ι', w, _, hI, .one hsk⟩
  · obtain ⟨ι1, w1, hp, hv, hst⟩ := zt1 hN hS sV hop c a (fun x hx => by rw [hkn]; exact hev x hx) ho (hwant _ hw) rest k cs
    have hnx : V.next = (h (i + 1)).next := h1.2.symm
    have hVb : ∀ b, b ∉ hl W bef m h kp i → (h (i + 1)).get b = V.get b := fun b hb => by rw [h1.1]; exact if_neg hb
    have haf : ∀ b, Af W ops e h i b → b ∈ W i ∨ ((h i).next ≤ b ∧ b < V.next) := by
      rintro b ⟨o', ho', _, hh⟩
      rw [hnx]; exact hh
    obtain ⟨ι', hI⟩ := I.next T hr hbits hOKe hOK0 hmk hlo hi hDi hpre hnx (fun b hb => (hVb b (T.af hi hb).1).symm) (fun b hb hnv hna => hok.same b hb (fun hw' => hna ⟨o, ho, hw, .inl hw'⟩) (by have : b ∉ zjd W bef m i (h i).next (kp i) := hnv; simpa using this))
      (by exact hok.val) (fun b x hb hx => by rw [hVb b (T.af hi hb).1] at hx; exact hok.new b x (haf b hb) hx) hv hp
    rw [hdst] at hI
    exact ⟨ι', w1, _, hI, hst⟩
theorem yah7 [E : Env] (hN : Names P) (hS : zks P ex) (hb : base ≤ w0.heap.size) (gl : zlg w0 base) {m : Nat} (hm : m = zc9 bef ops.size) (T : LT P ex ops bef m W e h kp val) (hr : ze5 ops bef = true) (r : Order ops bef) (hbits : ∀ i j, (bef.getD i 0).testBit j = true → j < i)
    (hOKe : ∀ v ∈ vals (e 0).s, v.OK w0 base (h 0).next) (hOK0 : ∀ b x, (h 0).get b = some x → BlkOK w0 base (h 0).next x ∧ b < (h 0).next) (hmk : ∀ b ∈ marks, b < (h 0).next) (hlo : 0 ≤ (h 0).next) (c : RC) (k : List Item) (cs : List Frame) :
    ∀ (fuel t : Nat) (listed : Array Bool) (D : Nat → Bool) (ι : Inj) (w : World) (a : Act), listed.size = ops.size → cnt D ops.size ≤ fuel → (∀ i, i < ops.size → listed.getD i false = D i) → IL P w0 base ι0 w00 marks ops bef m W e h val kp D ι w a →
    ∃ ι' w' a', IL P w0 base ι0 w00 marks ops bef m W e h val kp (fun i => decide (i < m)) ι' w' a' ∧
      Steps P (lone (F c a (.inRegion ops (Region.linearise.go .any ops fuel t listed []) :: k)) cs w) (lone (F c a' (.inRegion ops (List.range' m (ops.size - m)) :: k)) cs w') := by
  have hmn : m ≤ ops.size := by rw [hm]; exact zi9 bef _
  have hafter : ∀ i, m ≤ i → i < ops.size → zdz (bef.getD i 0) i = true := fun i h1 h2 => ziw bef ops.size i (by omega) h2
  intro fuel
  induction fuel with
  | zero =>
    intro t listed D ι w a hs hc hl I
    have hD : D = fun i => decide (i < m) := by
      funext i
      cases hDi : D i with
      | true => simp [I.dm i hDi]
      | false =>
        by_cases him : i < m
        · have := zvk hDi ops.size (by omega); omega
        · simp [him]
    subst hD
    have := zoe r hbits (ops.size - m) m 0 t listed hs (by omega) (by rw [yacf m _ hmn] at hc; omega) hl hafter
    rw [this]
    exact ⟨ι, w, a, I, Steps.refl P _⟩
  | succ fuel ih =>
    intro t listed D ι w a hs hc hl I
    by_cases hall : ∀ i, i < m → D i = true
    · have hD : D = fun i => decide (i < m) := by
        funext i
        cases hDi : D i with
        | true => simp [I.dm i hDi]
        | false =>
          by_cases him : i < m
          · rw [hall i him] at hDi; cases hDi
          · simp [him]
      subst hD
      have := zoe r hbits (ops.size - m) m (fuel + 1) t listed hs (by omega) (by rw [yacf m _ hmn] at hc; omega) hl hafter
      rw [this]
      exact ⟨ι, w, a, I, Steps.refl P _⟩
    · have hex : ∃ i, i < m ∧ D i = false := by
        apply Classical.byContradiction
        intro hn
        apply hall
        intro i hi
        cases hDi : D i with
        | true => rfl
        | false => exact absurd ⟨i, hi, hDi⟩ hn
      obtain ⟨i0, hi0, hDi0⟩ := hex
      obtain ⟨i, t', hi, hgo⟩ := zvy ops fuel t listed (zrm r hs (i := i0) (by omega) (by rw [hl i0 (by omega)]; exact hDi0))
      obtain ⟨o, ho, h1, h2⟩ := (zhl hs).1 hi
      have hio : i < ops.size := (Array.getElem?_eq_some_iff.1 ho).1
      have hDi : D i = false := by rw [← hl i hio]; exact h1
      have hpre : ∀ j, (bef.getD i 0).testBit j = true → D j = true := by
        intro j hj
        obtain ⟨e', he', hb', h3⟩ := r.via i o j ho hj
        have hlt := r.back i o ho e' he' hb'
        have hDe : D e'.on = true := by rw [← hl e'.on (by omega)]; exact h2 e' he' hb'
        rcases h3 with rfl | h3
        · exact hDe
        · exact I.dc e'.on hDe j h3
      have him : i < m := by
        apply Classical.byContradiction
        intro hge
        have := (zes _ i).1 (hafter i (by omega) hio) i0 (by omega)
        rw [hpre i0 this] at hDi0; cases hDi0
      rw [hgo]
      obtain ⟨ι1, w1, a1, hI, hst⟩ := I.step hN hS hb gl T hr hbits hOKe hOK0 hmk hlo him hDi hpre c (Region.linearise.go .any ops fuel t' (listed.setIfInBounds i true) []) k cs
      obtain ⟨ι2, w2, a2, hI2, hst2⟩ := ih t' (listed.setIfInBounds i true) (fun j => if j = i then true else D j) ι1 w1 a1 (by simpa using hs) (by rw [zqq hDi ops.size hio] at hc; omega) (fun q hq => by
        rw [zd1 _ _ _ (by omega)]
        by_cases e1 : q = i
        · simp [e1]
        · simp only [e1, if_false]; exact hl q hq) hI
      exact ⟨ι2, w2, a2, hI2, hst.trans hst2⟩
theorem zrr [E : Env] (hN : Names P) (hm : P.follows .mixedOrders = true) (hS : zks P ex) (s : Sim P w0 base ι H w) {ops : Array Oper} {env env' : EV} {H' : Heap} {W : Nat → List Nat} (hd : zob P ex ops W env H = some (env', H')) {a : Act} (hA : ARel w0 base ι H.next env marks a) (hlo : 0 ≤ H.next)
    (c : RC) (id : Nat) (k : List Item) (cs : List Frame) :
    ∃ ι' w' a', Post P w0 base 0 ι H w ι' H' w' ∧ ARel w0 base ι' H'.next env' marks a' ∧ Steps P (lone (F c a (.code (.region id ops true) :: k)) cs w) (lone (F c a' k) cs w') := by
  unfold zob at hd
  simp only at hd
  split at hd
  · rename_i hc
    simp only [Bool.and_eq_true] at hc
    obtain ⟨⟨hr, hedge⟩, hbef⟩ := hc
    have r := yaix hedge hbef
    have hbsz : (Region.before ops).size = ops.size := by
      simp only [zzi, Bool.and_eq_true, decide_eq_true_eq] at hbef; exact hbef.1
    have hbits := r.bits (fun i hi => by simp [Array.getD_eq_getD_getElem?, Array.getElem?_eq_none (show (Region.before ops).size ≤ i by omega)])
    split at hd
    · rename_i env1 H1 hq
      have hmn := zi9 (Region.before ops) ops.size
      generalize hmdef : zc9 (Region.before ops) ops.size = m at hd hq hmn
      obtain ⟨e, h, kp, val, e1, e2, e3, e4, e5, e6⟩ := zp5 ops (Region.before ops) m W (ops.toList.take m) 0 env H [] env1 H1 (fun j o hj => by
        rw [List.getElem?_take] at hj
        split at hj
        · simpa using hj
        · cases hj) hq
      have hlen : (ops.toList.take m).length = m := by simp; omega
      rw [hlen, Nat.zero_add] at e4 e5
      have T : LT P ex ops (Region.before ops) m W e h kp val := ⟨e3, fun j hj => e6 j (by omega) (by omega)⟩
      have hOKe : ∀ v ∈ vals (e 0).s, v.OK w0 base (h 0).next := by rw [e1, e2]; exact hA.ok
      have hOK0 : ∀ b x, (h 0).get b = some x → BlkOK w0 base (h 0).next x ∧ b < (h 0).next := by rw [e2]; exact fun b x hx => ⟨s.ok b x hx, s.lt b x hx⟩
      have hmk : ∀ b ∈ marks, b < (h 0).next := by rw [e2]; exact fun b hb => hA.marks b hb
      have hlive0 : ∀ b, zgk W ops e h (fun _ => false) m b = if b < H.next then H.get b else none := by
        intro b
        rw [zu9 m (Nat.zero_le _) (fun j _ _ hd => by cases hd), zgk, e2]
      have hlive1 : ∀ b x, zgk W ops e h (fun _ => false) m b = some x → H.get b = some x := by
        intro b x hx
        rw [hlive0] at hx
        split at hx
        · exact hx
        · cases hx
      have hvalF : ∀ j t, zlc ops (e 0) val (fun _ => false) j t = (e 0).look t := fun j t => by
        induction j with
        | zero => rfl
        | succ j ih => rw [zlc, if_neg (by simp)]; exact ih
      have s' := s.drawn (w.drawn + 1)
      have I0 : IL P w0 base ι { w with drawn := w.drawn + 1 } marks ops (Region.before ops) m W e h val kp (fun _ => false) ι { w with drawn := w.drawn + 1 } a :=
        { dm := fun i hi => by cases hi
          dc := fun i hi => by cases hi
          tsz := by rw [e1]; exact hA.tr.1.symm
          tm := fun t v hv => by rw [hvalF, e1] at hv; exact hA.tr.2 t v hv
          vok := fun i hi => by cases hi
          vis := fun i hi => by cases hi
          dfs := hA.defers
          ext := fun _ _ => rfl
          below := s'.below
          inj := fun b b' x x' hx hx' => s'.inj b b' x x' (hlive1 b x hx) (hlive1 b' x' hx')
          lob := fun b x hx => s'.lo b x (hlive1 b x hx)
          rel := fun b x hx => s'.rel b x (hlive1 b x hx)
          bok := fun i b x hi => by cases hi
          size := Nat.le_refl _
          frame := fun _ _ _ => rfl
          fresh := fun b x hx hb => by have := s.lt b x (hlive1 b x hx); rw [e2] at hb; omega
          alive := fun b x hx hb => ⟨x, by rw [e2]; exact hlive1 b x hx⟩
          keep := fun b hb => by rw [hlive0, e2, if_pos (by omega)] }
      have hsched : Region.schedule (P.follows .mixedOrders) ops (w.tape w.drawn (.order c.fn id)) = Region.linearise.go .any ops ops.size (w.tape w.drawn (.order c.fn id)) (Array.replicate ops.size false) [] := by
        simp [Region.schedule, hm, Region.linearise]
      obtain ⟨ι1, w1, a1, I, hst⟩ := yah7 (ι0 := ι) (w00 := { w with drawn := w.drawn + 1 }) (marks := marks) hN hS s.hb s.gl hmdef.symm T hr r hbits hOKe hOK0 hmk (by rw [e2]; exact hlo) c k cs ops.size (w.tape w.drawn (.order c.fn id)) (Array.replicate ops.size false) (fun _ => false) ι _ a (by simp) (by
          have : ∀ n, cnt (fun _ => false) n = n := fun n => by induction n with
            | zero => rfl
            | succ n ih => simp [cnt, ih]
          rw [this]; exact Nat.le_refl _) (fun i hi => by simp [Array.getD_eq_getD_getElem?, hi]) I0
      have hlt := T.lt (fun b x hx => (hOK0 b x hx).2)
      have hliveM : ∀ b, b < H1.next → zgk W ops e h (fun i => decide (i < m)) m b = H1.get b := by
        intro b hb
        rw [← e5]
        exact T.blk m (Nat.le_refl _) (by rw [e5]; exact hb) (fun q hq _ => by simp [hq])
      have hlive2 : ∀ b x, H1.get b = some x → zgk W ops e h (fun i => decide (i < m)) m b = some x := by
        intro b x hx
        rw [hliveM b (by rw [← e5] at hx ⊢; exact hlt m (Nat.le_refl _) b x hx)]; exact hx
      have hn0 : H.next ≤ H1.next := by rw [← e2, ← e5]; exact T.mono 0 m (by omega) (Nat.le_refl _)
      have p1 : Post P w0 base 0 ι H w ι1 H1 w1 :=
        { sim := { below := I.below, hb := s.hb, gl := s.gl, inj := fun b b' x x' hx hx' => I.inj b b' x x' (hlive2 b x hx) (hlive2 b' x' hx'), lt := fun b x hx => by rw [← e5] at hx ⊢; exact hlt m (Nat.le_refl _) b x hx,
                   lo := fun b x hx => I.lob b x (hlive2 b x hx), rel := fun b x hx => I.rel b x (hlive2 b x hx),
                   ok := fun b x hx => by
                     rcases zfk m (hlive2 b x hx) with ⟨h6, h7⟩ | ⟨j, h6, h7, h8, h9⟩
                     · exact (hOK0 b x h7).1.mono (by rw [e2]; exact hn0)
                     · exact (I.bok j b x h7 h8 h9).1.mono (by rw [← e5]; exact T.mono (j + 1) m (by omega) (Nat.le_refl _)) }
          ext := fun b hb => I.ext b (by rw [e2]; exact hb)
          next := hn0
          keep := fun b hb => by rw [← hliveM b (by omega), ← e2]; exact I.keep b hb
          alive := fun b x hb hx => by rw [← e2]; exact I.alive b x (hlive2 b x hx) (by rw [e2]; exact hb)
          size := I.size
          frame := fun q hq hne => I.frame q hq (by rw [e2]; exact hne)
          newr := fun b x hx hb => by
            have := I.fresh b x (hlive2 b x hx) (by rw [e2]; exact hb)
            rw [e2] at this; exact this }
      have hA1 : ARel w0 base ι1 H1.next env1 marks a1 := by
        have hv : ∀ t, env1.look t = zlc ops (e 0) val (fun i => decide (i < m)) m t := fun t => by
          rw [← e4, (T.env m (Nat.le_refl _)).2 t]
          exact zkp (e 0) t _ _ m (fun j hj _ => by simp [hj])
        have hn1 : env1.n = a1.tmps.size := by rw [← e4, (T.env m (Nat.le_refl _)).1, I.tsz]
        have hok : ∀ v ∈ vals env1.s, v.OK w0 base H1.next := by
          rw [← e4]
          exact T.vals hOKe I.vok (by rw [← e5]; exact fun j hj => T.mono j m hj (Nat.le_refl _)) m (Nat.le_refl _)
        exact ⟨⟨hn1, fun t v hv' => I.tm t v (by rw [← hv t]; exact hv')⟩, hok, I.dfs, fun b hb => by have := hA.marks b hb; omega⟩
      obtain ⟨ι2, w2, a2, hp2, hA2, hst2⟩ := ze7 hN hS ops marks c k cs (ops.toList.drop m) m env1 H1 env' H' ι1 w1 a1 (fun j => by rw [List.getElem?_drop]; simp) hd p1.sim hA1
      refine ⟨ι2, w2, a2, p1.trans hp2, hA2, ?_⟩
      have h7 : (ops.toList.drop m).length = ops.size - m := by simp
      rw [h7] at hst2
      refine Steps.head yapz ?_
      rw [hsched]
      exact hst.trans (hst2.trans (.one zl0))
    · cases hd
  · cases hd
theorem yaal [E : Env] (hN : Names P) (hm : P.follows .mixedOrders = true) (hS : zks P ex) (s : Sim P w0 base ι H w) {ops : Array Oper} {env env' : EV} {H' : Heap} {fn : FuncId} {id : Nat} (hd : runD P ex fn id ops env H = some (env', H')) {a : Act} (hA : ARel w0 base ι H.next env marks a) (hlo : 0 ≤ H.next)
    (c : RC) (k : List Item) (cs : List Frame) :
    ∃ ι' w' a', Post P w0 base 0 ι H w ι' H' w' ∧ ARel w0 base ι' H'.next env' marks a' ∧ Steps P (lone (F c a (.code (.region id ops true) :: k)) cs w) (lone (F c a' k) cs w') := by
  exact zrr hN hm hS s hd hA hlo c id k cs
end
end Go.Ab
