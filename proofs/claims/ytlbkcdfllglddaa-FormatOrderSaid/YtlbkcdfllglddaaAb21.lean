/- The abstract interpreter is sound, 18: all code; the calls. Conditions: none. -/
import Derived.Test.YtlbkcdfllglddaaAb20
set_option linter.unusedSimpArgs false
set_option linter.unusedVariables false
namespace Go.Ab
open Go Go.RowKit

def cnt (D : Nat → Bool) : Nat → Nat
  | 0 => 0
  | n + 1 => cnt D n + (if D n then 0 else 1)
theorem cnt_same {D D' : Nat → Bool} : ∀ n, (∀ i, i < n → D i = D' i) → cnt D n = cnt D' n
  | 0, _ => rfl
  | n + 1, h => by simp only [cnt]; rw [cnt_same n (fun i hi => h i (by omega)), h n (by omega)]
theorem cnt_step [E : Env] {D : Nat → Bool} {i : Nat} (hi : D i = false) : ∀ n, i < n → cnt D n = cnt (fun j => if j = i then true else D j) n + 1
  | 0, h => by omega
  | n + 1, h => by
    simp only [cnt]
    by_cases e : n = i
    · subst e
      rw [cnt_same (D := D) (D' := fun j => if j = n then true else D j) n (fun j hj => by simp [show j ≠ n by omega])]
      simp [hi]
    · rw [cnt_step hi n (by omega)]
      simp [e]; omega
theorem cnt_lt (m : Nat) : ∀ n, m ≤ n → cnt (fun i => decide (i < m)) n = n - m
  | 0, h => by simp [cnt]
  | n + 1, h => by
    simp only [cnt]
    by_cases e : m ≤ n
    · rw [cnt_lt m n e]; simp [show ¬ n < m by omega]; omega
    · have : m = n + 1 := by omega
      subst this
      have : ∀ k, k ≤ n + 1 → cnt (fun i => decide (i < n + 1)) k = 0 := fun k => by
        induction k with
        | zero => intro _; rfl
        | succ k ih => intro hk; simp only [cnt]; rw [ih (by omega)]; simp [show k < n + 1 by omega]
      rw [this n (by omega)]; simp
theorem cnt_pos [E : Env] {D : Nat → Bool} {i : Nat} (hi : D i = false) : ∀ n, i < n → 0 < cnt D n := fun n h => by rw [cnt_step hi n h]; omega

section
variable {P : Program} {w0 : World} {base lo : Nat} {ι ι0 ι1 ι2 : Inj} {H H1 H2 : Heap} {w w00 w1 w2 : World} {ex : ExF}
variable {ops : Array Oper} {bef : Array Nat}

theorem go_nil (fuel t : Nat) (listed : Array Bool) (h : Region.ready .any ops listed = []) : Region.linearise.go .any ops fuel t listed [] = [] := by
  cases fuel with
  | zero => rfl
  | succ fuel =>
    simp only [Region.linearise.go]
    change (match (Region.ready .any ops listed)[t % (Region.ready .any ops listed).length]? with
      | some i => Region.linearise.go .any ops fuel (t / (Region.ready .any ops listed).length) (listed.setIfInBounds i true) [i]
      | none => [].reverse) = _
    rw [h]; rfl

theorem seqOrder' [E : Env] (r : Order ops bef) (hbits : ∀ i j, (bef.getD i 0).testBit j = true → j < i) : ∀ (k j fuel t : Nat) (listed : Array Bool), listed.size = ops.size → j + k = ops.size → k ≤ fuel → (∀ i, i < ops.size → listed.getD i false = decide (i < j)) →
    (∀ i, j ≤ i → i < ops.size → afterAll (bef.getD i 0) i = true) → Region.linearise.go .any ops fuel t listed [] = List.range' j k
  | 0, j, fuel, t, listed, hs, hk, hf, hl, _ => by
    refine go_nil fuel t listed (List.eq_nil_iff_forall_not_mem.2 fun i hi => ?_)
    obtain ⟨o, ho, h1, _⟩ := (ready_iff hs).1 hi
    have hio : i < ops.size := (Array.getElem?_eq_some_iff.1 ho).1
    rw [hl i hio] at h1
    simp at h1; omega
  | k + 1, j, 0, t, listed, hs, hk, hf, hl, ha => by omega
  | k + 1, j, fuel + 1, t, listed, hs, hk, hf, hl, ha => by
    have hj : j < ops.size := by omega
    obtain ⟨i, t', hi, hgo⟩ := go_step ops fuel t listed (ready_ne r hs hj (by rw [hl j hj]; simp))
    obtain ⟨o, ho, h1, h2⟩ := (ready_iff hs).1 hi
    have hio : i < ops.size := (Array.getElem?_eq_some_iff.1 ho).1
    rw [hl i hio] at h1
    have hge : j ≤ i := by simpa using h1
    have hij : i = j := by
      apply Classical.byContradiction
      intro hne
      have hbit := (afterAll_iff _ i).1 (ha i hge hio) j (by omega)
      obtain ⟨e, he, hb, h⟩ := r.via i o j ho hbit
      have hlisted := h2 e he hb
      have hlt := r.back i o ho e he hb
      rw [hl e.on (by omega)] at hlisted
      have hej : e.on < j := by simpa using hlisted
      rcases h with h | h
      · omega
      · have := hbits _ _ h; omega
    subst hij
    rw [hgo, List.range'_succ]
    congr 1
    exact seqOrder' r hbits k (i + 1) fuel t' _ (by simpa using hs) (by omega) (by omega) (fun q hq => by
      rw [getD_set _ _ _ (by omega)]
      by_cases e : q = i
      · subst e; simp
      · rw [if_neg e, hl q hq]
        have : (q < i) ↔ (q < i + 1) := by omega
        simp [this]) (fun q h1 h2 => ha q (by omega) h2)

variable {e : Nat → List AV} {h : Nat → Heap} {kp : Nat → List (Nat × Nat × Nat)} {val : Nat → AV} {marks : List Nat}

theorem quiet_run [E : Env] (hN : Names P) (hS : Sound P w0 base ex) (hb : base ≤ w0.heap.size) (gl : GlobOK w0 base) {m : Nat} (hm : m = quietLen bef ops.size) (T : Trace P ex ops bef m e h kp val) (hr : raceFree ops bef = true) (r : Order ops bef) (hbits : ∀ i j, (bef.getD i 0).testBit j = true → j < i)
    (hOKe : ∀ v ∈ e 0, v.OK w0 base (h 0).next) (hOK0 : ∀ b x, (h 0).get b = some x → BlkOK w0 base (h 0).next x ∧ b < (h 0).next) (hmk : ∀ b ∈ marks, b < (h 0).next) (c : RC) (k : List Item) (cs : List Frame) :
    ∀ (fuel t : Nat) (listed : Array Bool) (D : Nat → Bool) (ι : Inj) (w : World) (a : Act), listed.size = ops.size → cnt D ops.size ≤ fuel → (∀ i, i < ops.size → listed.getD i false = D i) → Inv P w0 base ι0 w00 marks ops bef m e h val kp D ι w a →
    ∃ ι' w' a', Inv P w0 base ι0 w00 marks ops bef m e h val kp (fun i => decide (i < m)) ι' w' a' ∧
      Steps P (lone (F c a (.inRegion ops (Region.linearise.go .any ops fuel t listed []) :: k)) cs w) (lone (F c a' (.inRegion ops (List.range' m (ops.size - m)) :: k)) cs w') := by
  have hmn : m ≤ ops.size := by rw [hm]; exact quietLen_le bef _
  have hafter : ∀ i, m ≤ i → i < ops.size → afterAll (bef.getD i 0) i = true := fun i h1 h2 => quietLen_after bef ops.size i (by omega) h2
  intro fuel
  induction fuel with
  | zero =>
    intro t listed D ι w a hs hc hl I
    have hD : D = fun i => decide (i < m) := by
      funext i
      cases hDi : D i with
      | true => simp [I.dm i hDi]
      | false =>
        by_cases him : i < m
        · have := cnt_pos hDi ops.size (by omega); omega
        · simp [him]
    subst hD
    have := seqOrder' r hbits (ops.size - m) m 0 t listed hs (by omega) (by rw [cnt_lt m _ hmn] at hc; omega) hl hafter
    rw [this]
    exact ⟨ι, w, a, I, Steps.refl P _⟩
  | succ fuel ih =>
    intro t listed D ι w a hs hc hl I
    by_cases hall : ∀ i, i < m → D i = true
    · have hD : D = fun i => decide (i < m) := by
        funext i
        cases hDi : D i with
        | true => simp [I.dm i hDi]
        | false =>
          by_cases him : i < m
          · rw [hall i him] at hDi; cases hDi
          · simp [him]
      subst hD
      have := seqOrder' r hbits (ops.size - m) m (fuel + 1) t listed hs (by omega) (by rw [cnt_lt m _ hmn] at hc; omega) hl hafter
      rw [this]
      exact ⟨ι, w, a, I, Steps.refl P _⟩
    · have hex : ∃ i, i < m ∧ D i = false := by
        apply Classical.byContradiction
        intro hn
        apply hall
        intro i hi
        cases hDi : D i with
        | true => rfl
        | false => exact absurd ⟨i, hi, hDi⟩ hn
      obtain ⟨i0, hi0, hDi0⟩ := hex
      obtain ⟨i, t', hi, hgo⟩ := go_step ops fuel t listed (ready_ne r hs (i := i0) (by omega) (by rw [hl i0 (by omega)]; exact hDi0))
      obtain ⟨o, ho, h1, h2⟩ := (ready_iff hs).1 hi
      have hio : i < ops.size := (Array.getElem?_eq_some_iff.1 ho).1
      have hDi : D i = false := by rw [← hl i hio]; exact h1
      have hpre : ∀ j, (bef.getD i 0).testBit j = true → D j = true := by
        intro j hj
        obtain ⟨e', he', hb', h3⟩ := r.via i o j ho hj
        have hlt := r.back i o ho e' he' hb'
        have hDe : D e'.on = true := by rw [← hl e'.on (by omega)]; exact h2 e' he' hb'
        rcases h3 with rfl | h3
        · exact hDe
        · exact I.dc e'.on hDe j h3
      have him : i < m := by
        apply Classical.byContradiction
        intro hge
        have := (afterAll_iff _ i).1 (hafter i (by omega) hio) i0 (by omega)
        rw [hpre i0 this] at hDi0; cases hDi0
      rw [hgo]
      obtain ⟨ι1, w1, a1, hI, hst⟩ := I.step hN hS hb gl T hr hbits hOKe hOK0 hmk him hDi hpre c (Region.linearise.go .any ops fuel t' (listed.setIfInBounds i true) []) k cs
      obtain ⟨ι2, w2, a2, hI2, hst2⟩ := ih t' (listed.setIfInBounds i true) (fun j => if j = i then true else D j) ι1 w1 a1 (by simpa using hs) (by rw [cnt_step hDi ops.size hio] at hc; omega) (fun q hq => by
        rw [getD_set _ _ _ (by omega)]
        by_cases e1 : q = i
        · simp [e1]
        · simp only [e1, if_false]; exact hl q hq) hI
      exact ⟨ι2, w2, a2, hI2, hst.trans hst2⟩

theorem list_ext_get {l l' : List AV} (h : ∀ t : Nat, l[t]? = l'[t]?) : l = l' := List.ext_getElem? h

/-- a region whose order is open -/
theorem runDraw_sound [E : Env] (hN : Names P) (hm : P.follows .mixedOrders = true) (hS : Sound P w0 base ex) (s : Sim P w0 base ι H w) {ops : Array Oper} {env env' : List AV} {H' : Heap} (hd : runDraw P ex lo ops env H = some (env', H')) {a : Act} (hA : ARel w0 base lo ι H.next env marks a) (hlo : lo ≤ H.next)
    (c : RC) (id : Nat) (k : List Item) (cs : List Frame) :
    ∃ ι' w' a', Post P w0 base lo ι H w ι' H' w' ∧ ARel w0 base lo ι' H'.next env' marks a' ∧ Steps P (lone (F c a (.code (.region id ops true) :: k)) cs w) (lone (F c a' k) cs w') := by
  unfold runDraw at hd
  simp only at hd
  split at hd
  · rename_i hc
    simp only [Bool.and_eq_true] at hc
    obtain ⟨⟨hr, hedge⟩, hbef⟩ := hc
    have r := order_of hedge hbef
    have hbsz : (Region.before ops).size = ops.size := by
      simp only [befOk, Bool.and_eq_true, decide_eq_true_eq] at hbef; exact hbef.1
    have hbits := r.bits (fun i hi => by simp [Array.getD_eq_getD_getElem?, Array.getElem?_eq_none (show (Region.before ops).size ≤ i by omega)])
    split at hd
    · rename_i env1 H1 hq
      have hmn := quietLen_le (Region.before ops) ops.size
      generalize hmdef : quietLen (Region.before ops) ops.size = m at hd hq hmn
      obtain ⟨e, h, kp, val, e1, e2, e3, e4, e5, e6⟩ := runQuiet_trace ops (Region.before ops) (ops.toList.take m) 0 env H [] env1 H1 (fun j o hj => by
        rw [List.getElem?_take] at hj
        split at hj
        · simpa using hj
        · cases hj) hq
      have hlen : (ops.toList.take m).length = m := by simp; omega
      rw [hlen, Nat.zero_add] at e4 e5
      have T : Trace P ex ops (Region.before ops) m e h kp val := ⟨e3, fun j hj => e6 j (by omega) (by omega)⟩
      have hOKe : ∀ v ∈ e 0, v.OK w0 base (h 0).next := by rw [e1, e2]; exact hA.ok
      have hOK0 : ∀ b x, (h 0).get b = some x → BlkOK w0 base (h 0).next x ∧ b < (h 0).next := by rw [e2]; exact fun b x hx => ⟨s.ok b x hx, s.lt b x hx⟩
      have hmk : ∀ b ∈ marks, b < (h 0).next := by rw [e2]; exact fun b hb => (hA.marks b hb).2
      have hlive0 : ∀ b x, Live h m (fun _ => false) b x → H.get b = some x := by
        intro b x hL
        rcases hL with ⟨_, h2⟩ | ⟨_, _, h2, _⟩
        · rw [e2] at h2; exact h2
        · cases h2
      have hvalF : ∀ j t, valT ops (e 0) val (fun _ => false) j t = (e 0)[t]? := fun j t => by
        induction j with
        | zero => rfl
        | succ j ih => rw [valT, if_neg (by simp)]; exact ih
      have s' := s.drawn (w.drawn + 1)
      have I0 : Inv P w0 base ι { w with drawn := w.drawn + 1 } marks ops (Region.before ops) m e h val kp (fun _ => false) ι { w with drawn := w.drawn + 1 } a :=
        { dm := fun i hi => by cases hi
          dc := fun i hi => by cases hi
          tsz := by rw [hA.tmps, e1]; simp
          tm := fun t => by rw [hvalF, e1, hA.tmps]; simp
          vok := fun i hi => by cases hi
          vis := fun i hi => by cases hi
          dfs := hA.defers
          ext := fun _ _ => rfl
          below := s'.below
          inj := fun b b' x x' hx hx' => s'.inj b b' x x' (hlive0 b x hx) (hlive0 b' x' hx')
          lo := fun b x hx => s'.lo b x (hlive0 b x hx)
          rel := fun b x hx => s'.rel b x (hlive0 b x hx)
          bok := fun i b x hi => by cases hi
          size := Nat.le_refl _
          frame := fun _ _ => rfl
          fresh := fun i b x hi => by cases hi }
      have hsched : Region.schedule (P.follows .mixedOrders) ops (w.tape w.drawn (.order c.fn id)) = Region.linearise.go .any ops ops.size (w.tape w.drawn (.order c.fn id)) (Array.replicate ops.size false) [] := by
        simp [Region.schedule, hm, Region.linearise]
      obtain ⟨ι1, w1, a1, I, hst⟩ := quiet_run (ι0 := ι) (w00 := { w with drawn := w.drawn + 1 }) (marks := marks) hN hS s.hb s.gl hmdef.symm T hr r hbits hOKe hOK0 hmk c k cs ops.size (w.tape w.drawn (.order c.fn id)) (Array.replicate ops.size false) (fun _ => false) ι _ a (by simp) (by
          have : ∀ n, cnt (fun _ => false) n = n := fun n => by induction n with
            | zero => rfl
            | succ n ih => simp [cnt, ih]
          rw [this]; exact Nat.le_refl _) (fun i hi => by simp [Array.getD_eq_getD_getElem?, hi]) I0
      -- the heap behind the quiet part
      have hlt := T.lt (fun b x hx => (hOK0 b x hx).2)
      have hliveM : ∀ b x, H1.get b = some x → Live h m (fun i => decide (i < m)) b x := by
        intro b x hx
        rw [← e5] at hx
        by_cases hb0 : b < (h 0).next
        · exact .inl ⟨hb0, by rw [← (T.mono 0 m (by omega) (Nat.le_refl _)).2 b hb0]; exact hx⟩
        · have hown : ∀ q, q ≤ m → b < (h q).next → ∃ j, j < q ∧ (h j).next ≤ b ∧ b < (h (j + 1)).next := by
            intro q
            induction q with
            | zero => intro _ h6; omega
            | succ q ih =>
              intro hq h6
              by_cases h8 : b < (h q).next
              · obtain ⟨j, h9, h10⟩ := ih (by omega) h8
                exact ⟨j, by omega, h10⟩
              · exact ⟨q, by omega, by omega, h6⟩
          obtain ⟨j, h6, h7, h8⟩ := hown m (Nat.le_refl _) (hlt m (Nat.le_refl _) b x hx)
          exact .inr ⟨j, h6, by simp [h6], h7, h8, hx⟩
      have hn0 : H.next ≤ H1.next := by rw [← e2, ← e5]; exact (T.mono 0 m (by omega) (Nat.le_refl _)).1
      have p1 : Post P w0 base lo ι H w ι1 H1 w1 :=
        { sim := { below := I.below, hb := s.hb, gl := s.gl, inj := fun b b' x x' hx hx' => I.inj b b' x x' (hliveM b x hx) (hliveM b' x' hx'), lt := fun b x hx => by rw [← e5] at hx ⊢; exact hlt m (Nat.le_refl _) b x hx,
                   lo := fun b x hx => I.lo b x (hliveM b x hx), rel := fun b x hx => I.rel b x (hliveM b x hx),
                   ok := fun b x hx => by
                     rcases hliveM b x hx with ⟨h6, h7⟩ | ⟨j, h6, h7, h8, h9, h10⟩
                     · exact (hOK0 b x h7).1.mono (by rw [e2]; exact hn0)
                     · exact (I.bok j b x h7 h8 h9 h10).1.mono (by rw [← e5]; exact (T.mono (j + 1) m (by omega) (Nat.le_refl _)).1) }
          ext := fun b hb => I.ext b (by rw [e2]; exact hb)
          next := hn0
          keep := fun b hb => by rw [← e2, ← e5]; exact (T.mono 0 m (by omega) (Nat.le_refl _)).2 b (by rw [e2]; omega)
          alive := fun b x hb hx => ⟨x, by rw [← e2, ← (T.mono 0 m (by omega) (Nat.le_refl _)).2 b (by rw [e2]; exact hb), e5]; exact hx⟩
          size := I.size
          frame := fun q hq _ => I.frame q hq
          newr := fun b x hx hb => by
            rcases hliveM b x hx with ⟨h6, h7⟩ | ⟨j, h6, h7, h8, h9, h10⟩
            · rw [e2] at h6; omega
            · exact .inl (I.fresh j b x h7 h8 h9 h10) }
      have hA1 : ARel w0 base lo ι1 H1.next env1 marks a1 := by
        have hv : ∀ t, env1[t]? = valT ops (e 0) val (fun i => decide (i < m)) m t := fun t => by
          rw [← e4, (T.env m (Nat.le_refl _)).2 t]
          exact valT_same (e 0) t _ _ m (fun j hj _ => by simp [hj])
        refine ⟨?_, fun v hv' => ?_, I.dfs, fun b hb => ⟨(hA.marks b hb).1, by have := (hA.marks b hb).2; omega⟩⟩
        · apply Array.ext_getElem?
          intro t
          rw [I.tm t, ← hv t]
          simp
        · obtain ⟨t, ht⟩ := List.getElem?_of_mem hv'
          rw [hv t] at ht
          rcases valT_cases (e 0) _ t m v ht with h6 | ⟨j, h6, h7, rfl⟩
          · exact OK.mono (by rw [e2]; exact hn0) v (hOKe v h6)
          · exact OK.mono (by rw [← e5]; exact (T.mono (j + 1) m (by omega) (Nat.le_refl _)).1) _ (I.vok j h7)
      obtain ⟨ι2, w2, a2, hp2, hA2, hst2⟩ := runOps_sound hN hS ops marks c k cs (ops.toList.drop m) m env1 H1 env' H' ι1 w1 a1 (fun j => by rw [List.getElem?_drop]; simp) hd p1.sim hA1 (by omega)
      refine ⟨ι2, w2, a2, p1.trans hp2, hA2, ?_⟩
      have h7 : (ops.toList.drop m).length = ops.size - m := by simp
      rw [h7] at hst2
      refine Steps.head st_draw ?_
      rw [hsched]
      exact hst.trans (hst2.trans (.one st_regionEnd))
    · cases hd
  · cases hd
end
end Go.Ab
