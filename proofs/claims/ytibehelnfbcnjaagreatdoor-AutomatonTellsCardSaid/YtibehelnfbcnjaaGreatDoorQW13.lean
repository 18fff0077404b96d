/- What the law's proof leans on, part 39. Conditions: in each statement. -/
import Derived.Test.YtibehelnfbcnjaaGreatDoorQWR
set_option linter.all false
set_option linter.unusedSimpArgs false
set_option linter.unusedVariables false
set_option linter.unusedSectionVars false
namespace Go.Ab
open Go Go.RowKit
def zir (ι : Inj) (b : Nat) : Deferred := { target := .collected (ι b).1, args := #[] }
structure ARel (w0 : World) (base : Nat) (ι : Inj) (n : Nat) (env : EV) (marks : List Nat) (a : Act) : Prop where
  tr : TR ι env a.tmps
  ok : ∀ v ∈ vals env.s, v.OK w0 base n
  defers : a.defers = marks.map (zir ι)
  marks : ∀ b ∈ marks, b < n
structure CRel (ι : Inj) (n : Nat) (cx : Ctx) (c : RC) : Prop where
  fn : c.fn = cx.fn
  kind : c.kind = .normal
  rnd : (cx.rnd = none ∧ c.rnd = none) ∨ ∃ l, cx.rnd = some l ∧ l < n ∧ c.rnd = some (ι l).1
def Reach (P : Program) (m : Machine) (c : RC) (k : List Item) (cs : List Frame) : Ex → Act → World → Prop
  | .normal, a, w => Steps P m (lone (F c a k) cs w)
  | .exit id, a, w => ∃ k1, exitTo id k1 = exitTo id k ∧ Steps P m (lone (F c a (.code (.exit id) :: k1)) cs w)
  | .ret, a, w => ∃ k1, Steps P m (lone (F c a (.code .ret :: k1)) cs w)
theorem Reach.of_steps {P : Program} {m m1 : Machine} {c : RC} {k : List Item} {cs : List Frame} {e : Ex} {a : Act} {w : World} (h : Steps P m m1) (h' : Reach P m1 c k cs e a w) : Reach P m c k cs e a w := by
  cases e with
  | normal => exact h.trans h'
  | exit id => obtain ⟨k1, h1, h2⟩ := h'; exact ⟨k1, h1, h.trans h2⟩
  | ret => obtain ⟨k1, h2⟩ := h'; exact ⟨k1, h.trans h2⟩
structure CPost [E : Env] (P : Program) (w0 : World) (base pin : Nat) (ι : Inj) (H : Heap) (w : World) (ι' : Inj) (H' : Heap) (w' : World) : Prop where
  sim : Sim P w0 base ι' H' w'
  ext : ∀ b, b < pin → ι' b = ι b
  hpin : pin ≤ H'.next
  alive : ∀ b x, b < pin → H'.get b = some x → ∃ y, H.get b = some y
  size : w.heap.size ≤ w'.heap.size
  frame : ∀ r, r < w.heap.size → (∀ b x, H.get b = some x → (ι b).1 ≠ r) → w'.heap[r]? = w.heap[r]?
  newr : ∀ b x, H'.get b = some x → w.heap.size ≤ (ι' b).1 ∨ ∃ b0 x0, H.get b0 = some x0 ∧ (ι' b).1 = (ι b0).1
def yabd [E : Env] (P : Program) (cx : Ctx) (pin : Nat) (code : Code) (st : St) (r : Ex × St) : Prop :=
  ∀ w0 base ι w a c, Sim P w0 base ι st.H w → ARel w0 base ι st.H.next st.env st.marks a → CRel ι pin cx c → pin ≤ st.H.next →
    ∀ k cs, ∃ ι' w' a', CPost P w0 base pin ι st.H w ι' r.2.H w' ∧ ARel w0 base ι' r.2.H.next r.2.env r.2.marks a' ∧ Reach P (lone (F c a (.code code :: k)) cs w) c k cs r.1 a' w'
def zks [E : Env] (P : Program) (ex : ExF) : Prop := ∀ cx pin code st r, ex cx pin code st = some r → yabd P cx pin code st r
section
variable {P : Program} {w0 : World} {base lo pin : Nat} {ι ι1 ι2 : Inj} {H H1 H2 : Heap} {w w1 w2 : World} {ex : ExF}
theorem CPost.refl [E : Env] (s : Sim P w0 base ι H w) (hp : pin ≤ H.next) : CPost P w0 base pin ι H w ι H w :=
  ⟨s, fun _ _ => rfl, hp, fun b x _ h => ⟨x, h⟩, Nat.le_refl _, fun _ _ _ => rfl, fun b x h => .inr ⟨b, x, h, rfl⟩⟩
theorem CPost.trans [E : Env] (a : CPost P w0 base pin ι H w ι1 H1 w1) (b : CPost P w0 base pin ι1 H1 w1 ι2 H2 w2) : CPost P w0 base pin ι H w ι2 H2 w2 where
  sim := b.sim
  ext := fun c hc => (b.ext c hc).trans (a.ext c hc)
  hpin := b.hpin
  alive := fun c x hc hx => by obtain ⟨y, hy⟩ := b.alive c x hc hx; exact a.alive c y hc hy
  size := Nat.le_trans a.size b.size
  frame := fun r hr hne => by
    rw [b.frame r (Nat.lt_of_lt_of_le hr a.size) fun c x hx => ?_, a.frame r hr hne]
    rcases a.newr c x hx with h | ⟨c0, x0, h0, he⟩
    · omega
    · rw [he]; exact hne c0 x0 h0
  newr := fun c x hx => by
    rcases b.newr c x hx with h | ⟨c1, x1, h1, he⟩
    · exact .inl (Nat.le_trans a.size h)
    · rw [he]; exact a.newr c1 x1 h1
theorem Post.code [E : Env] (s : Sim P w0 base ι H w) (p : Post P w0 base 0 ι H w ι1 H1 w1) (hp : pin ≤ H.next) : CPost P w0 base pin ι H w ι1 H1 w1 where
  sim := p.sim
  ext := fun b hb => p.ext b (by omega)
  hpin := Nat.le_trans hp p.next
  alive := fun b x hb hx => p.alive b x (by omega) hx
  size := p.size
  frame := fun r hr hne => p.frame r hr fun b x hx _ => hne b x hx
  newr := fun b x hx => by
    rcases Nat.lt_or_ge b H.next with hb | hb
    · obtain ⟨y, hy⟩ := p.alive b x hb hx
      exact .inr ⟨b, y, hy, congrArg Prod.fst (p.ext b hb)⟩
    · exact (p.newr b x hx hb).imp id fun ⟨b0, x0, h0, _, he⟩ => ⟨b0, x0, h0, he⟩
theorem CPost.mono [E : Env] {pin' : Nat} (p : CPost P w0 base pin ι H w ι1 H1 w1) (h : pin' ≤ pin) : CPost P w0 base pin' ι H w ι1 H1 w1 :=
  ⟨p.sim, fun b hb => p.ext b (by omega), Nat.le_trans h p.hpin, fun b x hb => p.alive b x (by omega), p.size, p.frame, p.newr⟩
theorem ARel.ext [E : Env] {n n' : Nat} {env : EV} {marks : List Nat} {a : Act} (h : ARel w0 base ι n env marks a) (he : ∀ b, b < n → ι1 b = ι b) (hn : n ≤ n') : ARel w0 base ι1 n' env marks a :=
  ⟨h.tr.ext he h.ok, fun v hv => OK.mono hn v (h.ok v hv), by
    rw [h.defers]; exact List.map_congr_left fun b hb => by simp [zir, he b (h.marks b hb)], fun b hb => Nat.lt_of_lt_of_le (h.marks b hb) hn⟩
theorem CRel.ext {n n' : Nat} {cx : Ctx} {c : RC} (h : CRel ι n cx c) (he : ∀ b, b < n → ι1 b = ι b) (hn : n ≤ n') : CRel ι1 n' cx c :=
  ⟨h.fn, h.kind, h.rnd.imp id fun ⟨l, h1, h2, h3⟩ => ⟨l, h1, Nat.lt_of_lt_of_le h2 hn, by rw [h3, he l h2]⟩⟩
theorem zlb (ι : Inj) : undefA.conc ι = undef := by simp [undefA, AV.conc, AV.concL, undef]
theorem ARel.ev [E : Env] {n : Nat} {env : EV} {marks : List Nat} {a : Act} (h : ARel w0 base ι n env marks a) (gl : zlg w0 base) (x : Operand) : Ev w0 base n ι env a.eval x := by
  intro v hv
  cases x with
  | tmp t =>
    simp only [zau] at hv
    refine ⟨?_, h.ok v (zga hv)⟩
    have := h.tr.2 t v hv
    simp only [Act.eval]
    rw [Array.getD_eq_getD_getElem?, this]; rfl
  | const v' => exact ⟨(zk4 ι hv).symm, OK.mono (Nat.zero_le _) v (zrh hv)⟩
  | global g =>
    obtain ⟨h1, h2⟩ := gl g v hv
    exact ⟨(h2 ι).symm, OK.mono (Nat.zero_le _) v h1⟩
  | func f => simp only [zau, Option.some.injEq] at hv; subst hv; simp [Act.eval, AV.conc, AV.concL, AV.OK, AV.OKL]
theorem zoq {t : Nat} {v : AV} {u : Nat} : ∀ s : List (Nat × AV), zbb (zo2 t v s) u = if u = t then some v else zbb s u
  | [] => by simp [zo2, zbb]
  | (k, x) :: s => by
    simp only [zo2]
    split
    · rename_i e; subst e
      simp only [zbb]
      split <;> rfl
    · split
      · simp only [zbb]
      · simp only [zbb, zoq s]
        split
        · rename_i e1 e2 e3
          rw [if_neg]; intro e4; exact e1 (e4.symm.trans e3)
        · rfl
theorem yad3 {t : Nat} {v u : AV} : ∀ s : List (Nat × AV), u ∈ vals (zo2 t v s) → u = v ∨ u ∈ vals s
  | [], h => by simpa [zo2, vals] using h
  | (k, x) :: s, h => by
    simp only [zo2] at h
    split at h
    · simp only [vals, List.mem_cons] at h ⊢; exact h.imp id .inr
    · split at h
      · simpa [vals] using h
      · simp only [vals, List.mem_cons] at h ⊢
        rcases h with h | h
        · exact .inr (.inl h)
        · exact (yad3 s h).imp id .inr
theorem TR.set {e : EV} {tv : Array Value} (h : TR ι e tv) (d : Nat) (v : AV) : TR ι (e.set d v) (tv.setIfInBounds d (v.conc ι)) := by
  unfold EV.set
  split
  · rename_i hd
    refine ⟨by simp [h.1], fun t u hu => ?_⟩
    have hu' : zbb (zo2 d v e.s) t = some u := hu
    rw [zoq] at hu'
    split at hu'
    · rename_i e1; subst e1
      cases hu'
      rw [Array.getElem?_setIfInBounds]; rw [if_pos rfl, if_pos (by have := h.1; omega)]
    · rename_i e1
      rw [Array.getElem?_setIfInBounds_ne (Ne.symm e1)]
      exact h.2 t u hu'
  · rename_i hd
    refine ⟨by simp [h.1], fun t u hu => ?_⟩
    have ht := h.2 t u hu
    have : t < tv.size := (Array.getElem?_eq_some_iff.1 ht).1
    rw [Array.getElem?_setIfInBounds_ne (by have := h.1; omega)]
    exact ht
theorem zrt {e : EV} {d : Nat} {v u : AV} (h : u ∈ vals (e.set d v).s) : u = v ∨ u ∈ vals e.s := by
  unfold EV.set at h
  split at h
  · exact yad3 _ h
  · exact .inr h
theorem ARel.put {n : Nat} {env : EV} {marks : List Nat} {a : Act} (h : ARel w0 base ι n env marks a) (d : Option Tmp) {v : AV} (hv : v.OK w0 base n) : ARel w0 base ι n (zcw env d v) marks (a.put d (v.conc ι)) := by
  cases d with
  | none => exact h
  | some d =>
    refine ⟨h.tr.set d v, fun u hu => ?_, h.defers, h.marks⟩
    rcases zrt hu with rfl | hu
    · exact hv
    · exact h.ok u hu
theorem zor {ks : List Nat} {t : Nat} {v : AV} : ∀ {s : List (Nat × AV)}, zbb (zo4 ks s) t = some v → zbb s t = some v
  | [], h => by cases h
  | (k, x) :: s, h => by
    simp only [zo4] at h
    simp only [zbb]
    by_cases e : t = k
    · subst e
      rw [if_pos rfl]
      split at h
      · simpa [zbb] using h
      · rename_i hk
        exfalso
        exact hk (lim_mem h)
    · rw [if_neg e]
      split at h
      · simp only [zbb, if_neg e] at h; exact zor h
      · exact zor h
where
  lim_mem : ∀ {s : List (Nat × AV)} {t : Nat} {v : AV}, zbb (zo4 ks s) t = some v → ks.contains t = true
    | [], _, _, h => by cases h
    | (k, x) :: s, t, v, h => by
      simp only [zo4] at h
      split at h
      · rename_i hk
        simp only [zbb] at h
        split at h
        · rename_i e; rw [e]; exact hk
        · exact lim_mem h
      · exact lim_mem h
theorem zq9 {ks : List Nat} {v : AV} : ∀ {s : List (Nat × AV)}, v ∈ vals (zo4 ks s) → v ∈ vals s
  | [], h => by cases h
  | (k, x) :: s, h => by
    simp only [zo4] at h
    split at h
    · simp only [vals, List.mem_cons] at h ⊢; exact h.imp id zq9
    · exact List.mem_cons_of_mem _ (zq9 h)
theorem ARel.lim {n : Nat} {env : EV} {marks : List Nat} {a : Act} (h : ARel w0 base ι n env marks a) (ks : List Nat) : ARel w0 base ι n (env.lim ks) marks a :=
  ⟨⟨h.tr.1, fun t v hv => h.tr.2 t v (zor hv)⟩, fun v hv => h.ok v (zq9 hv), h.defers, h.marks⟩
theorem ARel.ren {n m : Nat} {env : EV} {marks : List Nat} {a : Act} {ρ : Nat → Nat} (h : ARel w0 base ι n env marks a) (h1 : ∀ b ∈ AV.refsL (vals env.s), ι1 (ρ b) = ι b ∧ ρ b < m) (h2 : ∀ b ∈ marks, ι1 (ρ b) = ι b ∧ ρ b < m) : ARel w0 base ι1 m (env.ren ρ) (marks.map ρ) a := by
  refine ⟨h.tr.ren fun b hb => (h1 b hb).1, fun v hv => ?_, ?_, fun b hb => ?_⟩
  · have hv' : v ∈ vals (zyq ρ env.s) := hv
    rw [zop] at hv'
    obtain ⟨u, hu, rfl⟩ := List.mem_map.1 hv'
    exact zif u (h.ok u hu) fun b hb => (h1 b (zhm hu hb)).2
  · rw [h.defers, List.map_map]
    exact List.map_congr_left fun b hb => by simp [zir, (h2 b hb).1]
  · obtain ⟨c, hc, rfl⟩ := List.mem_map.1 hb
    exact (h2 c hc).2
theorem zn3 {H : Heap} {b c : Nat} : ∀ {l : List Nat}, b ∈ l → c ∈ zma (H.get b) → c ∈ zhj H l
  | a :: l, h, hc => by
    simp only [zhj, List.mem_append]
    rcases List.mem_cons.1 h with rfl | h
    · exact .inl hc
    · exact .inr (zn3 h hc)
structure Ord (H : Heap) (pin : Nat) (r ord : List Nat) : Prop where
  shut : Shut H ord
  head : List.range pin <+: ord
  all : ∀ b ∈ r, b ∈ ord
theorem zyg {r ord : List Nat} (h : zrk H pin r = some ord) : Ord H pin r ord := by
  unfold zrk at h
  obtain ⟨h1, h2, h3, h4⟩ := zh6 H _ _ _ _ h (fun b hb c hc => .inr (List.mem_append.2 (.inl (zn3 hb hc)))) List.nodup_range
  exact ⟨⟨h3, h4⟩, h1, fun b hb => h2 b (by simp [hb])⟩
theorem Ord.fix {r ord : List Nat} (o : Ord H pin r ord) {b : Nat} (hb : b < pin) : ord[b]? = some b := by
  obtain ⟨t, rfl⟩ := o.head
  rw [List.getElem?_append_left (by simpa using hb)]; simp [hb]
theorem Ord.len {r ord : List Nat} (o : Ord H pin r ord) : pin ≤ ord.length := by
  have := o.head.length_le; simpa using this
theorem CPost.part [E : Env] (s : Sim P w0 base ι H w) {r ord : List Nat} (o : Ord H pin r ord) : CPost P w0 base pin ι H w (znk ι ord) (H.part ord) w where
  sim := s.part o.shut
  ext := fun b hb => by unfold znk; rw [List.getD_eq_getElem?_getD, o.fix hb]; rfl
  hpin := o.len
  alive := fun b x hb hx => by
    rw [ze3, o.fix hb, Option.bind_some, Option.map_eq_some_iff] at hx
    obtain ⟨y, hy, _⟩ := hx
    exact ⟨y, hy⟩
  size := Nat.le_refl _
  frame := fun _ _ _ => rfl
  newr := fun b x hx => by
    rw [ze3] at hx
    cases hj : ord[b]? with
    | none => rw [hj] at hx; cases hx
    | some c =>
      rw [hj, Option.bind_some, Option.map_eq_some_iff] at hx
      obtain ⟨y, hy, _⟩ := hx
      exact .inr ⟨c, y, hy, by unfold znk; rw [List.getD_eq_getElem?_getD, hj]; rfl⟩
theorem zn1 [E : Env] (s : Sim P w0 base ι H w) {env : EV} {marks : List Nat} {a : Act} (hA : ARel w0 base ι H.next env marks a) (hp : pin ≤ H.next) :
    ∃ ι', CPost P w0 base pin ι H w ι' (zka pin ⟨env, marks, H⟩).H w ∧ ARel w0 base ι' (zka pin ⟨env, marks, H⟩).H.next (zka pin ⟨env, marks, H⟩).env (zka pin ⟨env, marks, H⟩).marks a := by
  unfold zka
  cases ho : zrk H pin (AV.refsL (vals env.s) ++ marks) with
  | none => exact ⟨ι, CPost.refl s hp, hA⟩
  | some ord =>
    have o := zyg ho
    refine ⟨znk ι ord, CPost.part s o, hA.ren (fun b hb => ?_) (fun b hb => ?_)⟩
    · have : b ∈ ord := o.all b (by simp [hb])
      exact ⟨zg7 this, zk5 this⟩
    · have : b ∈ ord := o.all b (by simp [hb])
      exact ⟨zg7 this, zk5 this⟩
theorem Post.drop [E : Env] (s : Sim P w0 base ι H w) {b : Nat} {x : Blk} (hx : H.get b = some x) (w1 : World) (hlo : lo ≤ b)
    (hw : w1.os = w.os ∧ w1.tape = w.tape ∧ w1.output = w.output ∧ w1.heap.size = w.heap.size) (hother : ∀ r, r ≠ (ι b).1 → w1.heap[r]? = w.heap[r]?) : Post P w0 base lo ι H w ι (H.kill b) w1 := by
  have hget : ∀ c z, (H.kill b).get c = some z → c ≠ b ∧ H.get c = some z := fun c z h => by
    rw [Heap.get_kill] at h
    by_cases e : c = b
    · simp [e] at h
    · rw [if_neg e] at h; exact ⟨e, h⟩
  refine ⟨⟨?_, s.hb, s.gl, ?_, ?_, ?_, ?_, ?_⟩, fun _ _ => rfl, Nat.le_refl _, ?_, ?_, by omega, ?_, ?_⟩
  · refine s.below.trans ⟨hw.1, hw.2.1, hw.2.2.1, by omega, fun k hk => hother k ?_⟩
    have := s.lo b x hx; omega
  · intro c c' z z' h h' e; exact s.inj c c' z z' (hget c z h).2 (hget c' z' h').2 e
  · intro c z h; exact s.lt c z (hget c z h).2
  · intro c z h; exact s.lo c z (hget c z h).2
  · intro c z h; exact s.ok c z (hget c z h).2
  · intro c z h
    obtain ⟨hne, hz⟩ := hget c z h
    rw [hother _ (fun e => hne (s.inj c b z x hz hx e))]
    exact s.rel c z hz
  · intro c hc; rw [Heap.get_kill, if_neg (by omega)]
  · intro c z hc h; exact ⟨z, (hget c z h).2⟩
  · intro r hr hne; exact hother r fun e => hne b x hx hlo e.symm
  · intro c z h hc; have := s.lt c z (hget c z h).2; omega
theorem znq [E : Env] : ∀ (marks : List Nat) (H H' : Heap) (w : World) (fr : Frame) (cs : List Frame), zbg H marks = some H' → Sim P w0 base ι H w → (∀ b ∈ marks, lo ≤ b) → fr.mode = .returning → fr.defers = marks.map (zir ι) →
    ∃ w', Steps P (lone fr cs w) (lone { fr with defers := [] } cs w') ∧ Post P w0 base lo ι H w ι H' w'
  | [], H, H', w, fr, cs, h, s, _, hm, hd => by
    simp only [zbg] at h; cases h
    refine ⟨w, ?_, Post.refl s⟩
    have : ({ fr with defers := [] } : Frame) = fr := by
      have hd' : fr.defers = [] := by simpa using hd
      cases fr; simp only at hd' ⊢; rw [hd']
    rw [this]; exact Steps.refl P _
  | b :: bs, H, H', w, fr, cs, h, s, hl, hm, hd => by
    simp only [zbg] at h
    split at h
    · rename_i hb
      have hr := s.rel b _ hb
      simp only [BlkRel] at hr
      have htake : (Instr.takeDeferred (ι b).1).run P w = .ok [] { w with heap := w.heap.setIfInBounds (ι b).1 (.deferred none) } := by
        simp only [Instr.takeDeferred, Sem.run_bind, getObj, Sem.run, hr, Result.andThen_ok]
        rw [zcr _ _ _ hr (by simp)]
        rfl
      have hpost := Post.drop (lo := lo) s hb { w with heap := w.heap.setIfInBounds (ι b).1 (.deferred none) } (hl b (by simp)) ⟨rfl, rfl, rfl, by simp⟩ (fun r hr' => Array.getElem?_setIfInBounds_ne (fun e => hr' e.symm))
      have hst := yap1 (P := P) (cs := cs) hm (b := (ι b).1) (xs := #[]) (ds := bs.map (zir ι)) (by rw [hd]; rfl) htake
      obtain ⟨w', h1, h2⟩ := znq bs (H.kill b) H' _ { fr with defers := bs.map (zir ι) } cs h hpost.sim (fun c hc => hl c (by simp [hc])) hm rfl
      exact ⟨w', Steps.head hst h1, hpost.trans h2⟩
    · cases h
def zoa (tmps : Array Value) (r : ResultVar) : Sem Value :=
  match r with | .tmp t => pure (tmps.getD t undef) | .cell a t => do loadVar t (← asAddr (tmps.getD a undef))
theorem yaak (fn : Func) (tmps : Array Value) : results fn tmps = (do let vs ← fn.results.mapM (zoa tmps); pure (if h : vs.size = 1 then vs[0] else .tuple vs)) := by
  unfold results
  have e : (fun r : ResultVar => (match r with | .tmp t => pure (tmps.getD t undef) | .cell a t => do loadVar t (← asAddr (tmps.getD a undef)) : Sem Value)) = zoa tmps := rfl
  rw [← e]
  rfl
theorem zfg [E : Env] (s : Sim P w0 base ι H w) {env : EV} {tmps : Array Value} (ht : TR ι env tmps) (hok : ∀ v ∈ vals env.s, v.OK w0 base H.next) : ∀ (rs : List ResultVar) (vs : List AV), za6 P H env rs = some vs →
    (rs.mapM (zoa tmps)).run P w = .ok (vs.map (AV.conc ι)) w ∧ ∀ v ∈ vs, v.OK w0 base H.next
  | [], vs, h => by simp only [za6] at h; cases h; exact ⟨by simp, by simp⟩
  | r :: rs, vs, h => by
    have hget : ∀ t v, env.look t = some v → tmps.getD t undef = v.conc ι ∧ v.OK w0 base H.next := fun t v hv =>
      ⟨by rw [Array.getD_eq_getD_getElem?, ht.2 t v hv]; rfl, hok v (zga hv)⟩
    cases r with
    | tmp t =>
      simp only [za6] at h
      split at h
      · rename_i v l hv hl
        cases h
        obtain ⟨h1, h2⟩ := zfg s ht hok rs l hl
        refine ⟨by simp only [List.mapM_cons, Sem.run_bind, zoa, Sem.run_pure, Result.andThen_ok, h1, (hget t v hv).1, List.map_cons], fun u hu => ?_⟩
        rcases List.mem_cons.1 hu with rfl | hu
        · exact (hget t _ hv).2
        · exact h2 u hu
      · cases h
    | cell a t =>
      simp only [za6] at h
      split at h
      · rename_i v l hv hl
        cases h
        obtain ⟨h1, h2⟩ := zfg s ht hok rs l hl
        cases ha : env.look a with
        | none => rw [ha] at hv; cases hv
        | some p =>
        rw [ha] at hv
        have hv' : zv5 P H t p = some v := hv
        obtain ⟨A, hA, h3, h4⟩ := znm s hv' (hget a p ha).2
        refine ⟨by simp only [List.mapM_cons, Sem.run_bind, zoa, Sem.run_pure, (hget a p ha).1, hA, asAddr, pure_bind, h3, Result.andThen_ok, h1, List.map_cons], fun u hu => ?_⟩
        rcases List.mem_cons.1 hu with rfl | hu
        · exact h4
        · exact h2 u hu
      · cases h
theorem yaay [E : Env] {fn : Func} {tmps : Array Value} {vs : List AV} {n : Nat}
    (h : (fn.results.toList.mapM (zoa tmps)).run P w = .ok (vs.map (AV.conc ι)) w) (hok : ∀ v ∈ vs, v.OK w0 base n) :
    (results fn tmps).run P w = .ok ((zww vs).conc ι) w ∧ (zww vs).OK w0 base n := by
  have hm : (fn.results.mapM (zoa tmps)).run P w = .ok (vs.map (AV.conc ι)).toArray w := by
    rw [Array.mapM_eq_mapM_toList, Sem.run_map, h]; rfl
  constructor
  · simp only [yaak, Sem.run_bind, hm, Result.andThen_ok, Sem.run_pure]
    congr 1
    rcases vs with _ | ⟨v, _ | ⟨u, vs⟩⟩
    · simp [zww, AV.conc, AV.concL]
    · simp [zww]
    · simp [zww, AV.conc, zaz]
  · rcases vs with _ | ⟨v, _ | ⟨u, vs⟩⟩
    · simp [zww, AV.OK, AV.OKL]
    · exact hok v (by simp)
    · simp only [zww, AV.OK]; exact (zar ..).2 hok
theorem yae1 {x : Blk} {cap r : Nat} (h : BlkRel P ι cap w.heap[r]? x) : r < w.heap.size := by
  have : ∃ o, w.heap[r]? = some o := by
    cases x with
    | cells t cs => obtain ⟨c, ho, _⟩ := h; exact ⟨_, ho⟩
    | loop st pend fn tmps params assign body d => obtain ⟨tv, _, ho⟩ := h; exact ⟨_, ho⟩
    | _ => exact ⟨_, h⟩
  obtain ⟨o, ho⟩ := this
  exact (Array.getElem?_eq_some_iff.1 ho).1
mutual
theorem OK.here {w0 w : World} {base : Nat} (hb : base ≤ w0.heap.size) (hw : Below base w0 w) : ∀ v : AV, v.OK w0 base 0 → v.OK w w.heap.size 0
  | .bool _, _ | .int _ _, _ | .str _, _ | .nilp, _ | .nilf, _ | .nili, _ | .map none, _ => trivial
  | .ptr _ _, k | .sl _ _ _ _, k | .asl _ _ _ _ _, k | .map (some _), k | .yieldf _, k => by simp [AV.OK] at k
  | .rptr a cs, k => by
    simp only [AV.OK] at k ⊢
    have hs := hw.size
    exact ⟨by omega, fun ι j c hc => by rw [hw.cell (by rw [zcg]; exact k.1)]; exact k.2.1 ι j c hc, OKL.here hb hw cs k.2.2⟩
  | .rsl none _ _ _, k => by simp only [AV.OK] at k ⊢; exact k
  | .rsl (some a) _ _ l, k => by
    simp only [AV.OK] at k ⊢
    have hs := hw.size
    refine ⟨k.1, fun ι i e he => ?_, OKL.here hb hw l k.2.2⟩
    obtain ⟨k1, k2, k3⟩ := k.2.1 ι i e he
    exact ⟨by omega, k2, fun j c hc => by rw [hw.cell (by rw [zcg, zcg]; exact k1)]; exact k3 j c hc⟩
  | .func _ a b, k => by simp only [AV.OK] at k ⊢; exact ⟨OKL.here hb hw a k.1, OKL.here hb hw b k.2⟩
  | .iface _ v, k => by simp only [AV.OK] at k ⊢; exact OK.here hb hw v k
  | .agg l, k | .tup l, k => by simp only [AV.OK] at k ⊢; exact OKL.here hb hw l k
theorem OKL.here {w0 w : World} {base : Nat} (hb : base ≤ w0.heap.size) (hw : Below base w0 w) : ∀ l : List AV, AV.OKL w0 base 0 l → AV.OKL w w.heap.size 0 l
  | [], _ => trivial
  | v :: vs, k => by simp only [AV.OKL] at k ⊢; exact ⟨OK.here hb hw v k.1, OKL.here hb hw vs k.2⟩
end
theorem zsa : ∀ (l : List AV) (i t : Nat), zbb (zr7 i l) t = if i ≤ t then l[t - i]? else none
  | [], i, t => by simp [zr7, zbb]
  | v :: l, i, t => by
    simp only [zr7, zbb]
    by_cases e : t = i
    · subst e; simp
    · rw [if_neg e, zsa l (i + 1) t]
      by_cases h : i ≤ t
      · rw [if_pos h, if_pos (by omega), show t - i = (t - (i + 1)) + 1 by omega, List.getElem?_cons_succ]
      · rw [if_neg h, if_neg (by omega)]
theorem zsb : ∀ (l : List AV) (i : Nat), vals (zr7 i l) = l
  | [], _ => rfl
  | v :: l, i => by rw [zr7, vals, zsb l]
theorem zyl (H : Heap) (ρ : Nat → Nat) : ∀ l : List Nat, (pick H ρ l).length = l.length
  | [] => rfl
  | b :: l => by rw [pick, List.length_cons, zyl H ρ l, List.length_cons]
theorem zk8 [E : Env] (hS : zks P ex) {K K' : Heap} {ι : Inj} (s : Sim P w0 base ι K w) {f : FuncId} {args : List AV} {v : AV} (h : zas P ex f args K = some (v, K')) (hargs : ∀ a ∈ args, a.OK w0 base K.next) (cs : List Frame) :
    (∃ fn c, P.funcs[f]? = some fn ∧ fn.body = some c) ∧
    K'.l.length = K'.next ∧ ∃ ι' w' fr, CPost P w0 base K.next ι K w ι' K' w' ∧ v.OK w0 base K'.next ∧ Steps P (lone (Frame.enter P f (args.map (AV.conc ι)).toArray .normal) cs w) (lone fr cs w') ∧ fr.leaving P w' (.returned (v.conc ι')) ∧ fr.fn = f := by
  unfold zas at h
  cases hf : P.funcs[f]? with
  | none => simp [hf] at h
  | some fn =>
  simp only [hf] at h
  cases hb : fn.body with
  | none => simp [hb] at h
  | some c =>
  simp only [hb] at h
  refine ⟨⟨fn, c, rfl, hb⟩, ?_⟩
  have henter : Frame.enter P f (args.map (AV.conc ι)).toArray .normal = F ⟨f, .normal, none⟩ ⟨(args.map (AV.conc ι)).toArray ++ Array.replicate (fn.ntmps - args.length) undef, []⟩ [.code c] := by
    simp [Frame.enter, F, hf, hb]
  have hA : ARel w0 base ι K.next ⟨Nat.max fn.ntmps args.length, zr7 0 args⟩ [] ⟨(args.map (AV.conc ι)).toArray ++ Array.replicate (fn.ntmps - args.length) undef, []⟩ := by
    refine ⟨⟨?_, fun t u hu => ?_⟩, fun u hu => hargs u (by simpa [zsb] using hu), rfl, by simp⟩
    · simp only [Array.size_append, Array.size_replicate, List.size_toArray, List.length_map]
      show max fn.ntmps args.length = _
      omega
    · have hu' : zbb (zr7 0 args) t = some u := hu
      rw [zsa, if_pos (Nat.zero_le _), Nat.sub_zero] at hu'
      have ht := (List.getElem?_eq_some_iff.1 hu').1
      rw [Array.getElem?_append_left (by simpa using ht)]
      simp [hu']
  have hC : CRel ι K.next ⟨f, none⟩ ⟨f, .normal, none⟩ := ⟨rfl, rfl, .inl ⟨rfl, rfl⟩⟩
  have hbody : ∀ st, (ex ⟨f, none⟩ K.next c ⟨⟨Nat.max fn.ntmps args.length, zr7 0 args⟩, [], K⟩ = some (.normal, st) ∨ ex ⟨f, none⟩ K.next c ⟨⟨Nat.max fn.ntmps args.length, zr7 0 args⟩, [], K⟩ = some (.ret, st)) →
      (match zbg st.H st.marks with
        | some H' => match za6 P H' st.env fn.results.toList with
          | some vs => yaag K.next (zww vs) H'
          | none => none
        | none => none) = some (v, K') →
      K'.l.length = K'.next ∧ ∃ ι' w' fr, CPost P w0 base K.next ι K w ι' K' w' ∧ v.OK w0 base K'.next ∧ Steps P (lone (Frame.enter P f (args.map (AV.conc ι)).toArray .normal) cs w) (lone fr cs w') ∧ fr.leaving P w' (.returned (v.conc ι')) ∧ fr.fn = f := by
    intro st hst h
    cases hdm : zbg st.H st.marks with
    | none => simp [hdm] at h
    | some H1 =>
    simp only [hdm] at h
    cases hres : za6 P H1 st.env fn.results.toList with
    | none => simp [hres] at h
    | some vs =>
    simp only [hres] at h
    have key : ∃ ι' w' a' todo, CPost P w0 base K.next ι K w ι' st.H w' ∧ ARel w0 base ι' st.H.next st.env st.marks a' ∧
        Steps P (lone (Frame.enter P f (args.map (AV.conc ι)).toArray .normal) cs w) (lone { F ⟨f, .normal, none⟩ a' todo with mode := .returning } cs w') := by
      rw [henter]
      rcases hst with hst | hst
      · obtain ⟨ι', w', a', h1, h2, h3⟩ := hS _ _ _ _ _ hst w0 base ι w _ _ s hA hC (Nat.le_refl _) [] cs
        exact ⟨ι', w', a', _, h1, h2, Steps.trans h3 (.one (yavs rfl))⟩
      · obtain ⟨ι', w', a', h1, h2, k1, h3⟩ := hS _ _ _ _ _ hst w0 base ι w _ _ s hA hC (Nat.le_refl _) [] cs
        exact ⟨ι', w', a', _, h1, h2, Steps.trans h3 (.one (yavt rfl))⟩
    obtain ⟨ι', w', a', todo, h1, h2, h3⟩ := key
    obtain ⟨w'', h4, h5⟩ := znq (lo := 0) st.marks st.H H1 w' { F ⟨f, .normal, none⟩ a' todo with mode := .returning } cs hdm h1.sim (fun b hb => Nat.zero_le _) rfl h2.defers
    have hA' := h2.ext (ι1 := ι') (n' := H1.next) (fun _ _ => rfl) h5.next
    obtain ⟨h6, h7⟩ := zfg (P := P) h5.sim hA'.tr hA'.ok fn.results.toList vs hres
    obtain ⟨h8, h9⟩ := yaay (fn := fn) h6 h7
    unfold yaag at h
    cases ho : zrk H1 K.next (zww vs).refs with
    | none => simp [ho] at h
    | some ord =>
    simp only [ho, Option.some.injEq, Prod.mk.injEq] at h
    obtain ⟨rfl, rfl⟩ := h
    have o := zyg ho
    refine ⟨zyl _ _ _, znk ι' ord, w'', _, (h1.trans (h5.code h1.sim h1.hpin)).trans (CPost.part h5.sim o), zif _ h9 fun b hb => zk5 (o.all b hb), h3.trans h4, ⟨rfl, rfl, rfl, fn, hf, ?_⟩, rfl⟩
    rw [zf2 (ι1 := ι') _ fun b hb => zg7 (o.all b hb)]
    exact h8
  unfold runF at h
  cases hx : ex ⟨f, none⟩ K.next c ⟨⟨Nat.max fn.ntmps args.length, zr7 0 args⟩, [], K⟩ with
  | none => simp [hx] at h
  | some q =>
    obtain ⟨e, st⟩ := q
    rw [hx] at h
    cases e with
    | normal => exact hbody st (.inl hx) h
    | ret => exact hbody st (.inr hx) h
    | exit i => simp at h
end
end Go.Ab
