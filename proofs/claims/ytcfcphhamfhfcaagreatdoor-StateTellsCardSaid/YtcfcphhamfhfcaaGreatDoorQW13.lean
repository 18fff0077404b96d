/- What the law's proof leans on, part 40. Conditions: in each statement. -/
import Derived.Test.YtcfcphhamfhfcaaGreatDoorQWR
set_option linter.all false
set_option linter.unusedSimpArgs false
set_option linter.unusedVariables false
set_option linter.unusedSectionVars false
namespace Go.Ab
open Go Go.RowKit
def zks (ι : Inj) (b : Nat) : Deferred := { target := .collected (ι b).1, args := #[] }
structure ARel (w0 : World) (base : Nat) (ι : Inj) (n : Nat) (env : EV) (marks : List Nat) (a : Act) : Prop where
  tr : TR ι env a.tmps
  ok : ∀ v ∈ vals env.s, v.OK w0 base n
  defers : a.defers = marks.map (zks ι)
  marks : ∀ b ∈ marks, b < n
structure CRel (ι : Inj) (n : Nat) (cx : Ctx) (c : RC) : Prop where
  fn : c.fn = cx.fn
  kind : c.kind = .normal
  rnd : (cx.rnd = none ∧ c.rnd = none) ∨ ∃ l, cx.rnd = some l ∧ l < n ∧ c.rnd = some (ι l).1
def Reach (P : Program) (m : Machine) (c : RC) (k : List Item) (cs : List Frame) : Ex → Act → World → Prop
  | .normal, a, w => Steps P m (lone (F c a k) cs w)
  | .exit id, a, w => ∃ k1, exitTo id k1 = exitTo id k ∧ Steps P m (lone (F c a (.code (.exit id) :: k1)) cs w)
  | .ret, a, w => ∃ k1, Steps P m (lone (F c a (.code .ret :: k1)) cs w)
theorem Reach.of_steps {P : Program} {m m1 : Machine} {c : RC} {k : List Item} {cs : List Frame} {e : Ex} {a : Act} {w : World} (h : Steps P m m1) (h' : Reach P m1 c k cs e a w) : Reach P m c k cs e a w := by
  cases e with
  | normal => exact h.trans h'
  | exit id => obtain ⟨k1, h1, h2⟩ := h'; exact ⟨k1, h1, h.trans h2⟩
  | ret => obtain ⟨k1, h2⟩ := h'; exact ⟨k1, h.trans h2⟩
structure CPost [E : Env] (P : Program) (w0 : World) (base pin : Nat) (ι : Inj) (H : Heap) (w : World) (ι' : Inj) (H' : Heap) (w' : World) : Prop where
  sim : Sim P w0 base ι' H' w'
  ext : ∀ b, b < pin → ι' b = ι b
  hpin : pin ≤ H'.next
  alive : ∀ b x, b < pin → H'.get b = some x → ∃ y, H.get b = some y
  size : w.heap.size ≤ w'.heap.size
  frame : ∀ r, r < w.heap.size → (∀ b x, H.get b = some x → (ι b).1 ≠ r) → w'.heap[r]? = w.heap[r]?
  newr : ∀ b x, H'.get b = some x → w.heap.size ≤ (ι' b).1 ∨ ∃ b0 x0, H.get b0 = some x0 ∧ (ι' b).1 = (ι b0).1
def yaee [E : Env] (P : Program) (cx : Ctx) (pin : Nat) (code : Code) (st : St) (r : Ex × St) : Prop :=
  ∀ w0 base ι w a c, Sim P w0 base ι st.H w → ARel w0 base ι st.H.next st.env st.marks a → CRel ι pin cx c → pin ≤ st.H.next →
    ∀ k cs, ∃ ι' w' a', CPost P w0 base pin ι st.H w ι' r.2.H w' ∧ ARel w0 base ι' r.2.H.next r.2.env r.2.marks a' ∧ Reach P (lone (F c a (.code code :: k)) cs w) c k cs r.1 a' w'
def zm4 [E : Env] (P : Program) (ex : ExF) : Prop := ∀ cx pin code st r, ex cx pin code st = some r → yaee P cx pin code st r
section
variable {P : Program} {w0 : World} {base lo pin : Nat} {ι ι1 ι2 : Inj} {H H1 H2 : Heap} {w w1 w2 : World} {ex : ExF}
theorem CPost.refl [E : Env] (s : Sim P w0 base ι H w) (hp : pin ≤ H.next) : CPost P w0 base pin ι H w ι H w :=
  ⟨s, fun _ _ => rfl, hp, fun b x _ h => ⟨x, h⟩, Nat.le_refl _, fun _ _ _ => rfl, fun b x h => .inr ⟨b, x, h, rfl⟩⟩
theorem CPost.trans [E : Env] (a : CPost P w0 base pin ι H w ι1 H1 w1) (b : CPost P w0 base pin ι1 H1 w1 ι2 H2 w2) : CPost P w0 base pin ι H w ι2 H2 w2 where
  sim := b.sim
  ext := fun c hc => (b.ext c hc).trans (a.ext c hc)
  hpin := b.hpin
  alive := fun c x hc hx => by obtain ⟨y, hy⟩ := b.alive c x hc hx; exact a.alive c y hc hy
  size := Nat.le_trans a.size b.size
  frame := fun r hr hne => by
    rw [b.frame r (Nat.lt_of_lt_of_le hr a.size) fun c x hx => ?_, a.frame r hr hne]
    rcases a.newr c x hx with h | ⟨c0, x0, h0, he⟩
    · omega
    · rw [he]; exact hne c0 x0 h0
  newr := fun c x hx => by
    rcases b.newr c x hx with h | ⟨c1, x1, h1, he⟩
    · exact .inl (Nat.le_trans a.size h)
    · rw [he]; exact a.newr c1 x1 h1
theorem Post.code [E : Env] (s : Sim P w0 base ι H w) (p : Post P w0 base 0 ι H w ι1 H1 w1) (hp : pin ≤ H.next) : CPost P w0 base pin ι H w ι1 H1 w1 where
  sim := p.sim
  ext := fun b hb => p.ext b (by omega)
  hpin := Nat.le_trans hp p.next
  alive := fun b x hb hx => p.alive b x (by omega) hx
  size := p.size
  frame := fun r hr hne => p.frame r hr fun b x hx _ => hne b x hx
  newr := fun b x hx => by
    rcases Nat.lt_or_ge b H.next with hb | hb
    · obtain ⟨y, hy⟩ := p.alive b x hb hx
      exact .inr ⟨b, y, hy, congrArg Prod.fst (p.ext b hb)⟩
    · exact (p.newr b x hx hb).imp id fun ⟨b0, x0, h0, _, he⟩ => ⟨b0, x0, h0, he⟩
theorem CPost.mono [E : Env] {pin' : Nat} (p : CPost P w0 base pin ι H w ι1 H1 w1) (h : pin' ≤ pin) : CPost P w0 base pin' ι H w ι1 H1 w1 :=
  ⟨p.sim, fun b hb => p.ext b (by omega), Nat.le_trans h p.hpin, fun b x hb => p.alive b x (by omega), p.size, p.frame, p.newr⟩
theorem ARel.ext [E : Env] {n n' : Nat} {env : EV} {marks : List Nat} {a : Act} (h : ARel w0 base ι n env marks a) (he : ∀ b, b < n → ι1 b = ι b) (hn : n ≤ n') : ARel w0 base ι1 n' env marks a :=
  ⟨h.tr.ext he h.ok, fun v hv => OK.mono hn v (h.ok v hv), by
    rw [h.defers]; exact List.map_congr_left fun b hb => by simp [zks, he b (h.marks b hb)], fun b hb => Nat.lt_of_lt_of_le (h.marks b hb) hn⟩
theorem CRel.ext {n n' : Nat} {cx : Ctx} {c : RC} (h : CRel ι n cx c) (he : ∀ b, b < n → ι1 b = ι b) (hn : n ≤ n') : CRel ι1 n' cx c :=
  ⟨h.fn, h.kind, h.rnd.imp id fun ⟨l, h1, h2, h3⟩ => ⟨l, h1, Nat.lt_of_lt_of_le h2 hn, by rw [h3, he l h2]⟩⟩
theorem znq (ι : Inj) : undefA.conc ι = undef := by simp [undefA, AV.conc, AV.concL, undef]
theorem ARel.ev [E : Env] {n : Nat} {env : EV} {marks : List Nat} {a : Act} (h : ARel w0 base ι n env marks a) (gl : znx w0 base) (x : Operand) : Ev w0 base n ι env a.eval x := by
  intro v hv
  cases x with
  | tmp t =>
    simp only [za7] at hv
    refine ⟨?_, h.ok v (zhp hv)⟩
    have := h.tr.2 t v hv
    simp only [Act.eval]
    rw [Array.getD_eq_getD_getElem?, this]; rfl
  | const v' => exact ⟨(zni ι hv).symm, OK.mono (Nat.zero_le _) v (zua hv)⟩
  | global g =>
    obtain ⟨h1, h2⟩ := gl g v hv
    exact ⟨(h2 ι).symm, OK.mono (Nat.zero_le _) v h1⟩
  | func f => simp only [za7, Option.some.injEq] at hv; subst hv; simp [Act.eval, AV.conc, AV.concL, AV.OK, AV.OKL]
theorem zre {t : Nat} {v : AV} {u : Nat} : ∀ s : List (Nat × AV), zbu (zrs t v s) u = if u = t then some v else zbu s u
  | [] => by simp [zrs, zbu]
  | (k, x) :: s => by
    simp only [zrs]
    split
    · rename_i e; subst e
      simp only [zbu]
      split <;> rfl
    · split
      · simp only [zbu]
      · simp only [zbu, zre s]
        split
        · rename_i e1 e2 e3
          rw [if_neg]; intro e4; exact e1 (e4.symm.trans e3)
        · rfl
theorem yagv {t : Nat} {v u : AV} : ∀ s : List (Nat × AV), u ∈ vals (zrs t v s) → u = v ∨ u ∈ vals s
  | [], h => by simpa [zrs, vals] using h
  | (k, x) :: s, h => by
    simp only [zrs] at h
    split at h
    · simp only [vals, List.mem_cons] at h ⊢; exact h.imp id .inr
    · split at h
      · simpa [vals] using h
      · simp only [vals, List.mem_cons] at h ⊢
        rcases h with h | h
        · exact .inr (.inl h)
        · exact (yagv s h).imp id .inr
theorem TR.set {e : EV} {tv : Array Value} (h : TR ι e tv) (d : Nat) (v : AV) : TR ι (e.set d v) (tv.setIfInBounds d (v.conc ι)) := by
  unfold EV.set
  split
  · rename_i hd
    refine ⟨by simp [h.1], fun t u hu => ?_⟩
    have hu' : zbu (zrs d v e.s) t = some u := hu
    rw [zre] at hu'
    split at hu'
    · rename_i e1; subst e1
      cases hu'
      rw [Array.getElem?_setIfInBounds]; rw [if_pos rfl, if_pos (by have := h.1; omega)]
    · rename_i e1
      rw [Array.getElem?_setIfInBounds_ne (Ne.symm e1)]
      exact h.2 t u hu'
  · rename_i hd
    refine ⟨by simp [h.1], fun t u hu => ?_⟩
    have ht := h.2 t u hu
    have : t < tv.size := (Array.getElem?_eq_some_iff.1 ht).1
    rw [Array.getElem?_setIfInBounds_ne (by have := h.1; omega)]
    exact ht
theorem zun {e : EV} {d : Nat} {v u : AV} (h : u ∈ vals (e.set d v).s) : u = v ∨ u ∈ vals e.s := by
  unfold EV.set at h
  split at h
  · exact yagv _ h
  · exact .inr h
theorem ARel.put {n : Nat} {env : EV} {marks : List Nat} {a : Act} (h : ARel w0 base ι n env marks a) (d : Option Tmp) {v : AV} (hv : v.OK w0 base n) : ARel w0 base ι n (zdu env d v) marks (a.put d (v.conc ι)) := by
  cases d with
  | none => exact h
  | some d =>
    refine ⟨h.tr.set d v, fun u hu => ?_, h.defers, h.marks⟩
    rcases zun hu with rfl | hu
    · exact hv
    · exact h.ok u hu
theorem zrf {ks : List Nat} {t : Nat} {v : AV} : ∀ {s : List (Nat × AV)}, zbu (zru ks s) t = some v → zbu s t = some v
  | [], h => by cases h
  | (k, x) :: s, h => by
    simp only [zru] at h
    simp only [zbu]
    by_cases e : t = k
    · subst e
      rw [if_pos rfl]
      split at h
      · simpa [zbu] using h
      · rename_i hk
        exfalso
        exact hk (lim_mem h)
    · rw [if_neg e]
      split at h
      · simp only [zbu, if_neg e] at h; exact zrf h
      · exact zrf h
where
  lim_mem : ∀ {s : List (Nat × AV)} {t : Nat} {v : AV}, zbu (zru ks s) t = some v → ks.contains t = true
    | [], _, _, h => by cases h
    | (k, x) :: s, t, v, h => by
      simp only [zru] at h
      split at h
      · rename_i hk
        simp only [zbu] at h
        split at h
        · rename_i e; rw [e]; exact hk
        · exact lim_mem h
      · exact lim_mem h
theorem zt3 {ks : List Nat} {v : AV} : ∀ {s : List (Nat × AV)}, v ∈ vals (zru ks s) → v ∈ vals s
  | [], h => by cases h
  | (k, x) :: s, h => by
    simp only [zru] at h
    split at h
    · simp only [vals, List.mem_cons] at h ⊢; exact h.imp id zt3
    · exact List.mem_cons_of_mem _ (zt3 h)
theorem ARel.lim {n : Nat} {env : EV} {marks : List Nat} {a : Act} (h : ARel w0 base ι n env marks a) (ks : List Nat) : ARel w0 base ι n (env.lim ks) marks a :=
  ⟨⟨h.tr.1, fun t v hv => h.tr.2 t v (zrf hv)⟩, fun v hv => h.ok v (zt3 hv), h.defers, h.marks⟩
theorem ARel.ren {n m : Nat} {env : EV} {marks : List Nat} {a : Act} {ρ : Nat → Nat} (h : ARel w0 base ι n env marks a) (h1 : ∀ b ∈ AV.refsL (vals env.s), ι1 (ρ b) = ι b ∧ ρ b < m) (h2 : ∀ b ∈ marks, ι1 (ρ b) = ι b ∧ ρ b < m) : ARel w0 base ι1 m (env.ren ρ) (marks.map ρ) a := by
  refine ⟨h.tr.ren fun b hb => (h1 b hb).1, fun v hv => ?_, ?_, fun b hb => ?_⟩
  · have hv' : v ∈ vals (renE ρ env.s) := hv
    rw [zrb] at hv'
    obtain ⟨u, hu, rfl⟩ := List.mem_map.1 hv'
    exact zkg u (h.ok u hu) fun b hb => (h1 b (zji hu hb)).2
  · rw [h.defers, List.map_map]
    exact List.map_congr_left fun b hb => by simp [zks, (h2 b hb).1]
  · obtain ⟨c, hc, rfl⟩ := List.mem_map.1 hb
    exact (h2 c hc).2
theorem zqs {H : Heap} {b c : Nat} : ∀ {l : List Nat}, b ∈ l → c ∈ zon (H.get b) → c ∈ zjf H l
  | a :: l, h, hc => by
    simp only [zjf, List.mem_append]
    rcases List.mem_cons.1 h with rfl | h
    · exact .inl hc
    · exact .inr (zqs h hc)
structure Ord (H : Heap) (pin : Nat) (r ord : List Nat) : Prop where
  shut : Shut H ord
  head : List.range pin <+: ord
  all : ∀ b ∈ r, b ∈ ord
theorem yaa4 {r ord : List Nat} (h : zud H pin r = some ord) : Ord H pin r ord := by
  unfold zud at h
  obtain ⟨h1, h2, h3, h4⟩ := zj5 H _ _ _ _ h (fun b hb c hc => .inr (List.mem_append.2 (.inl (zqs hb hc)))) List.nodup_range
  exact ⟨⟨h3, h4⟩, h1, fun b hb => h2 b (by simp [hb])⟩
theorem Ord.fix {r ord : List Nat} (o : Ord H pin r ord) {b : Nat} (hb : b < pin) : ord[b]? = some b := by
  obtain ⟨t, rfl⟩ := o.head
  rw [List.getElem?_append_left (by simpa using hb)]; simp [hb]
theorem Ord.len {r ord : List Nat} (o : Ord H pin r ord) : pin ≤ ord.length := by
  have := o.head.length_le; simpa using this
theorem CPost.part [E : Env] (s : Sim P w0 base ι H w) {r ord : List Nat} (o : Ord H pin r ord) : CPost P w0 base pin ι H w (zp7 ι ord) (H.part ord) w where
  sim := s.part o.shut
  ext := fun b hb => by unfold zp7; rw [List.getD_eq_getElem?_getD, o.fix hb]; rfl
  hpin := o.len
  alive := fun b x hb hx => by
    rw [zgg, o.fix hb, Option.bind_some, Option.map_eq_some_iff] at hx
    obtain ⟨y, hy, _⟩ := hx
    exact ⟨y, hy⟩
  size := Nat.le_refl _
  frame := fun _ _ _ => rfl
  newr := fun b x hx => by
    rw [zgg] at hx
    cases hj : ord[b]? with
    | none => rw [hj] at hx; cases hx
    | some c =>
      rw [hj, Option.bind_some, Option.map_eq_some_iff] at hx
      obtain ⟨y, hy, _⟩ := hx
      exact .inr ⟨c, y, hy, by unfold zp7; rw [List.getD_eq_getElem?_getD, hj]; rfl⟩
theorem zqq [E : Env] (s : Sim P w0 base ι H w) {env : EV} {marks : List Nat} {a : Act} (hA : ARel w0 base ι H.next env marks a) (hp : pin ≤ H.next) :
    ∃ ι', CPost P w0 base pin ι H w ι' (zmn pin ⟨env, marks, H⟩).H w ∧ ARel w0 base ι' (zmn pin ⟨env, marks, H⟩).H.next (zmn pin ⟨env, marks, H⟩).env (zmn pin ⟨env, marks, H⟩).marks a := by
  unfold zmn
  cases ho : zud H pin (AV.refsL (vals env.s) ++ marks) with
  | none => exact ⟨ι, CPost.refl s hp, hA⟩
  | some ord =>
    have o := yaa4 ho
    refine ⟨zp7 ι ord, CPost.part s o, hA.ren (fun b hb => ?_) (fun b hb => ?_)⟩
    · have : b ∈ ord := o.all b (by simp [hb])
      exact ⟨zi3 this, znj this⟩
    · have : b ∈ ord := o.all b (by simp [hb])
      exact ⟨zi3 this, znj this⟩
theorem Post.drop [E : Env] (s : Sim P w0 base ι H w) {b : Nat} {x : Blk} (hx : H.get b = some x) (w1 : World) (hlo : lo ≤ b)
    (hw : w1.os = w.os ∧ w1.tape = w.tape ∧ w1.output = w.output ∧ w1.heap.size = w.heap.size) (hother : ∀ r, r ≠ (ι b).1 → w1.heap[r]? = w.heap[r]?) : Post P w0 base lo ι H w ι (H.kill b) w1 := by
  have hget : ∀ c z, (H.kill b).get c = some z → c ≠ b ∧ H.get c = some z := fun c z h => by
    rw [Heap.get_kill] at h
    by_cases e : c = b
    · simp [e] at h
    · rw [if_neg e] at h; exact ⟨e, h⟩
  refine ⟨⟨?_, s.hb, s.gl, ?_, ?_, ?_, ?_, ?_⟩, fun _ _ => rfl, Nat.le_refl _, ?_, ?_, by omega, ?_, ?_⟩
  · refine s.below.trans ⟨hw.1, hw.2.1, hw.2.2.1, by omega, fun k hk => hother k ?_⟩
    have := s.lo b x hx; omega
  · intro c c' z z' h h' e; exact s.inj c c' z z' (hget c z h).2 (hget c' z' h').2 e
  · intro c z h; exact s.lt c z (hget c z h).2
  · intro c z h; exact s.lo c z (hget c z h).2
  · intro c z h; exact s.ok c z (hget c z h).2
  · intro c z h
    obtain ⟨hne, hz⟩ := hget c z h
    rw [hother _ (fun e => hne (s.inj c b z x hz hx e))]
    exact s.rel c z hz
  · intro c hc; rw [Heap.get_kill, if_neg (by omega)]
  · intro c z hc h; exact ⟨z, (hget c z h).2⟩
  · intro r hr hne; exact hother r fun e => hne b x hx hlo e.symm
  · intro c z h hc; have := s.lt c z (hget c z h).2; omega
theorem zqe [E : Env] : ∀ (marks : List Nat) (H H' : Heap) (w : World) (fr : Frame) (cs : List Frame), zbx H marks = some H' → Sim P w0 base ι H w → (∀ b ∈ marks, lo ≤ b) → fr.mode = .returning → fr.defers = marks.map (zks ι) →
    ∃ w', Steps P (lone fr cs w) (lone { fr with defers := [] } cs w') ∧ Post P w0 base lo ι H w ι H' w'
  | [], H, H', w, fr, cs, h, s, _, hm, hd => by
    simp only [zbx] at h; cases h
    refine ⟨w, ?_, Post.refl s⟩
    have : ({ fr with defers := [] } : Frame) = fr := by
      have hd' : fr.defers = [] := by simpa using hd
      cases fr; simp only at hd' ⊢; rw [hd']
    rw [this]; exact Steps.refl P _
  | b :: bs, H, H', w, fr, cs, h, s, hl, hm, hd => by
    simp only [zbx] at h
    split at h
    · rename_i hb
      have hr := s.rel b _ hb
      simp only [BlkRel] at hr
      have htake : (Instr.takeDeferred (ι b).1).run P w = .ok [] { w with heap := w.heap.setIfInBounds (ι b).1 (.deferred none) } := by
        simp only [Instr.takeDeferred, Sem.run_bind, getObj, Sem.run, hr, Result.andThen_ok]
        rw [zdo _ _ _ hr (by simp)]
        rfl
      have hpost := Post.drop (lo := lo) s hb { w with heap := w.heap.setIfInBounds (ι b).1 (.deferred none) } (hl b (by simp)) ⟨rfl, rfl, rfl, by simp⟩ (fun r hr' => Array.getElem?_setIfInBounds_ne (fun e => hr' e.symm))
      have hst := yauz (P := P) (cs := cs) hm (b := (ι b).1) (xs := #[]) (ds := bs.map (zks ι)) (by rw [hd]; rfl) htake
      obtain ⟨w', h1, h2⟩ := zqe bs (H.kill b) H' _ { fr with defers := bs.map (zks ι) } cs h hpost.sim (fun c hc => hl c (by simp [hc])) hm rfl
      exact ⟨w', Steps.head hst h1, hpost.trans h2⟩
    · cases h
def zq0 (tmps : Array Value) (r : ResultVar) : Sem Value :=
  match r with | .tmp t => pure (tmps.getD t undef) | .cell a t => do loadVar t (← asAddr (tmps.getD a undef))
theorem yado (fn : Func) (tmps : Array Value) : results fn tmps = (do let vs ← fn.results.mapM (zq0 tmps); pure (if h : vs.size = 1 then vs[0] else .tuple vs)) := by
  unfold results
  have e : (fun r : ResultVar => (match r with | .tmp t => pure (tmps.getD t undef) | .cell a t => do loadVar t (← asAddr (tmps.getD a undef)) : Sem Value)) = zq0 tmps := rfl
  rw [← e]
  rfl
theorem zgv [E : Env] (s : Sim P w0 base ι H w) {env : EV} {tmps : Array Value} (ht : TR ι env tmps) (hok : ∀ v ∈ vals env.s, v.OK w0 base H.next) : ∀ (rs : List ResultVar) (vs : List AV), zbq P H env rs = some vs →
    (rs.mapM (zq0 tmps)).run P w = .ok (vs.map (AV.conc ι)) w ∧ ∀ v ∈ vs, v.OK w0 base H.next
  | [], vs, h => by simp only [zbq] at h; cases h; exact ⟨by simp, by simp⟩
  | r :: rs, vs, h => by
    have hget : ∀ t v, env.look t = some v → tmps.getD t undef = v.conc ι ∧ v.OK w0 base H.next := fun t v hv =>
      ⟨by rw [Array.getD_eq_getD_getElem?, ht.2 t v hv]; rfl, hok v (zhp hv)⟩
    cases r with
    | tmp t =>
      simp only [zbq] at h
      split at h
      · rename_i v l hv hl
        cases h
        obtain ⟨h1, h2⟩ := zgv s ht hok rs l hl
        refine ⟨by simp only [List.mapM_cons, Sem.run_bind, zq0, Sem.run_pure, Result.andThen_ok, h1, (hget t v hv).1, List.map_cons], fun u hu => ?_⟩
        rcases List.mem_cons.1 hu with rfl | hu
        · exact (hget t _ hv).2
        · exact h2 u hu
      · cases h
    | cell a t =>
      simp only [zbq] at h
      split at h
      · rename_i v l hv hl
        cases h
        obtain ⟨h1, h2⟩ := zgv s ht hok rs l hl
        cases ha : env.look a with
        | none => rw [ha] at hv; cases hv
        | some p =>
        rw [ha] at hv
        have hv' : zmc P H t p = some v := hv
        obtain ⟨A, hA, h3, h4⟩ := zqa s hv' (hget a p ha).2
        refine ⟨by simp only [List.mapM_cons, Sem.run_bind, zq0, Sem.run_pure, (hget a p ha).1, hA, asAddr, pure_bind, h3, Result.andThen_ok, h1, List.map_cons], fun u hu => ?_⟩
        rcases List.mem_cons.1 hu with rfl | hu
        · exact h4
        · exact h2 u hu
      · cases h
theorem yadz [E : Env] {fn : Func} {tmps : Array Value} {vs : List AV} {n : Nat}
    (h : (fn.results.toList.mapM (zq0 tmps)).run P w = .ok (vs.map (AV.conc ι)) w) (hok : ∀ v ∈ vs, v.OK w0 base n) :
    (results fn tmps).run P w = .ok ((zy9 vs).conc ι) w ∧ (zy9 vs).OK w0 base n := by
  have hm : (fn.results.mapM (zq0 tmps)).run P w = .ok (vs.map (AV.conc ι)).toArray w := by
    rw [Array.mapM_eq_mapM_toList, Sem.run_map, h]; rfl
  constructor
  · simp only [yado, Sem.run_bind, hm, Result.andThen_ok, Sem.run_pure]
    congr 1
    rcases vs with _ | ⟨v, _ | ⟨u, vs⟩⟩
    · simp [zy9, AV.conc, AV.concL]
    · simp [zy9]
    · simp [zy9, AV.conc, zbf]
  · rcases vs with _ | ⟨v, _ | ⟨u, vs⟩⟩
    · simp [zy9, AV.OK, AV.OKL]
    · exact hok v (by simp)
    · simp only [zy9, AV.OK]; exact (zaz ..).2 hok
theorem yahy {x : Blk} {cap r : Nat} (h : BlkRel P ι cap w.heap[r]? x) : r < w.heap.size := by
  have : ∃ o, w.heap[r]? = some o := by
    cases x with
    | cells t cs => obtain ⟨c, ho, _⟩ := h; exact ⟨_, ho⟩
    | loop st pend fn tmps params assign body d => obtain ⟨tv, _, ho⟩ := h; exact ⟨_, ho⟩
    | _ => exact ⟨_, h⟩
  obtain ⟨o, ho⟩ := this
  exact (Array.getElem?_eq_some_iff.1 ho).1
mutual
theorem OK.here {w0 w : World} {base : Nat} (hb : base ≤ w0.heap.size) (hw : Below base w0 w) : ∀ v : AV, v.OK w0 base 0 → v.OK w w.heap.size 0
  | .bool _, _ | .int _ _, _ | .str _, _ | .nilp, _ | .nilf, _ | .nili, _ | .map none, _ => trivial
  | .ptr _ _, k | .sl _ _ _ _, k | .map (some _), k | .yieldf _, k => by simp [AV.OK] at k
  | .rptr a cs, k => by
    simp only [AV.OK] at k ⊢
    have hs := hw.size
    exact ⟨by omega, fun ι j c hc => by rw [hw.cell (by rw [zdd]; exact k.1)]; exact k.2.1 ι j c hc, OKL.here hb hw cs k.2.2⟩
  | .rsl none _ _ _, k => by simp only [AV.OK] at k ⊢; exact k
  | .rsl (some a) _ _ l, k => by
    simp only [AV.OK] at k ⊢
    have hs := hw.size
    refine ⟨k.1, fun ι i e he => ?_, OKL.here hb hw l k.2.2⟩
    obtain ⟨k1, k2, k3⟩ := k.2.1 ι i e he
    exact ⟨by omega, k2, fun j c hc => by rw [hw.cell (by rw [zdd, zdd]; exact k1)]; exact k3 j c hc⟩
  | .func _ a b, k => by simp only [AV.OK] at k ⊢; exact ⟨OKL.here hb hw a k.1, OKL.here hb hw b k.2⟩
  | .iface _ v, k => by simp only [AV.OK] at k ⊢; exact OK.here hb hw v k
  | .agg l, k | .tup l, k => by simp only [AV.OK] at k ⊢; exact OKL.here hb hw l k
theorem OKL.here {w0 w : World} {base : Nat} (hb : base ≤ w0.heap.size) (hw : Below base w0 w) : ∀ l : List AV, AV.OKL w0 base 0 l → AV.OKL w w.heap.size 0 l
  | [], _ => trivial
  | v :: vs, k => by simp only [AV.OKL] at k ⊢; exact ⟨OK.here hb hw v k.1, OKL.here hb hw vs k.2⟩
end
theorem zu8 : ∀ (l : List AV) (i t : Nat), zbu (zu2 i l) t = if i ≤ t then l[t - i]? else none
  | [], i, t => by simp [zu2, zbu]
  | v :: l, i, t => by
    simp only [zu2, zbu]
    by_cases e : t = i
    · subst e; simp
    · rw [if_neg e, zu8 l (i + 1) t]
      by_cases h : i ≤ t
      · rw [if_pos h, if_pos (by omega), show t - i = (t - (i + 1)) + 1 by omega, List.getElem?_cons_succ]
      · rw [if_neg h, if_neg (by omega)]
theorem zu9 : ∀ (l : List AV) (i : Nat), vals (zu2 i l) = l
  | [], _ => rfl
  | v :: l, i => by rw [zu2, vals, zu9 l]
theorem yaa9 (H : Heap) (ρ : Nat → Nat) : ∀ l : List Nat, (pick H ρ l).length = l.length
  | [] => rfl
  | b :: l => by rw [pick, List.length_cons, yaa9 H ρ l, List.length_cons]
theorem znn [E : Env] (hS : zm4 P ex) {K K' : Heap} {ι : Inj} (s : Sim P w0 base ι K w) {f : FuncId} {args : List AV} {v : AV} (h : zaq P ex f args K = some (v, K')) (hargs : ∀ a ∈ args, a.OK w0 base K.next) (cs : List Frame) :
    (∃ fn c, P.funcs[f]? = some fn ∧ fn.body = some c) ∧
    K'.l.length = K'.next ∧ ∃ ι' w' fr, CPost P w0 base K.next ι K w ι' K' w' ∧ v.OK w0 base K'.next ∧ Steps P (lone (Frame.enter P f (args.map (AV.conc ι)).toArray .normal) cs w) (lone fr cs w') ∧ fr.leaving P w' (.returned (v.conc ι')) ∧ fr.fn = f := by
  unfold zaq at h
  cases hf : P.funcs[f]? with
  | none => simp [hf] at h
  | some fn =>
  simp only [hf] at h
  cases hb : fn.body with
  | none => simp [hb] at h
  | some c =>
  simp only [hb] at h
  refine ⟨⟨fn, c, rfl, hb⟩, ?_⟩
  have henter : Frame.enter P f (args.map (AV.conc ι)).toArray .normal = F ⟨f, .normal, none⟩ ⟨(args.map (AV.conc ι)).toArray ++ Array.replicate (fn.ntmps - args.length) undef, []⟩ [.code c] := by
    simp [Frame.enter, F, hf, hb]
  have hA : ARel w0 base ι K.next ⟨Nat.max fn.ntmps args.length, zu2 0 args⟩ [] ⟨(args.map (AV.conc ι)).toArray ++ Array.replicate (fn.ntmps - args.length) undef, []⟩ := by
    refine ⟨⟨?_, fun t u hu => ?_⟩, fun u hu => hargs u (by simpa [zu9] using hu), rfl, by simp⟩
    · simp only [Array.size_append, Array.size_replicate, List.size_toArray, List.length_map]
      show max fn.ntmps args.length = _
      omega
    · have hu' : zbu (zu2 0 args) t = some u := hu
      rw [zu8, if_pos (Nat.zero_le _), Nat.sub_zero] at hu'
      have ht := (List.getElem?_eq_some_iff.1 hu').1
      rw [Array.getElem?_append_left (by simpa using ht)]
      simp [hu']
  have hC : CRel ι K.next ⟨f, none⟩ ⟨f, .normal, none⟩ := ⟨rfl, rfl, .inl ⟨rfl, rfl⟩⟩
  have hbody : ∀ st, (ex ⟨f, none⟩ K.next c ⟨⟨Nat.max fn.ntmps args.length, zu2 0 args⟩, [], K⟩ = some (.normal, st) ∨ ex ⟨f, none⟩ K.next c ⟨⟨Nat.max fn.ntmps args.length, zu2 0 args⟩, [], K⟩ = some (.ret, st)) →
      (match zbx st.H st.marks with
        | some H' => match zbq P H' st.env fn.results.toList with
          | some vs => yadl K.next (zy9 vs) H'
          | none => none
        | none => none) = some (v, K') →
      K'.l.length = K'.next ∧ ∃ ι' w' fr, CPost P w0 base K.next ι K w ι' K' w' ∧ v.OK w0 base K'.next ∧ Steps P (lone (Frame.enter P f (args.map (AV.conc ι)).toArray .normal) cs w) (lone fr cs w') ∧ fr.leaving P w' (.returned (v.conc ι')) ∧ fr.fn = f := by
    intro st hst h
    cases hdm : zbx st.H st.marks with
    | none => simp [hdm] at h
    | some H1 =>
    simp only [hdm] at h
    cases hres : zbq P H1 st.env fn.results.toList with
    | none => simp [hres] at h
    | some vs =>
    simp only [hres] at h
    have key : ∃ ι' w' a' todo, CPost P w0 base K.next ι K w ι' st.H w' ∧ ARel w0 base ι' st.H.next st.env st.marks a' ∧
        Steps P (lone (Frame.enter P f (args.map (AV.conc ι)).toArray .normal) cs w) (lone { F ⟨f, .normal, none⟩ a' todo with mode := .returning } cs w') := by
      rw [henter]
      rcases hst with hst | hst
      · obtain ⟨ι', w', a', h1, h2, h3⟩ := hS _ _ _ _ _ hst w0 base ι w _ _ s hA hC (Nat.le_refl _) [] cs
        exact ⟨ι', w', a', _, h1, h2, Steps.trans h3 (.one (ya1m rfl))⟩
      · obtain ⟨ι', w', a', h1, h2, k1, h3⟩ := hS _ _ _ _ _ hst w0 base ι w _ _ s hA hC (Nat.le_refl _) [] cs
        exact ⟨ι', w', a', _, h1, h2, Steps.trans h3 (.one (ya1n rfl))⟩
    obtain ⟨ι', w', a', todo, h1, h2, h3⟩ := key
    obtain ⟨w'', h4, h5⟩ := zqe (lo := 0) st.marks st.H H1 w' { F ⟨f, .normal, none⟩ a' todo with mode := .returning } cs hdm h1.sim (fun b hb => Nat.zero_le _) rfl h2.defers
    have hA' := h2.ext (ι1 := ι') (n' := H1.next) (fun _ _ => rfl) h5.next
    obtain ⟨h6, h7⟩ := zgv (P := P) h5.sim hA'.tr hA'.ok fn.results.toList vs hres
    obtain ⟨h8, h9⟩ := yadz (fn := fn) h6 h7
    unfold yadl at h
    cases ho : zud H1 K.next (zy9 vs).refs with
    | none => simp [ho] at h
    | some ord =>
    simp only [ho, Option.some.injEq, Prod.mk.injEq] at h
    obtain ⟨rfl, rfl⟩ := h
    have o := yaa4 ho
    refine ⟨yaa9 _ _ _, zp7 ι' ord, w'', _, (h1.trans (h5.code h1.sim h1.hpin)).trans (CPost.part h5.sim o), zkg _ h9 fun b hb => znj (o.all b hb), h3.trans h4, ⟨rfl, rfl, rfl, fn, hf, ?_⟩, rfl⟩
    rw [zhg (ι1 := ι') _ fun b hb => zi3 (o.all b hb)]
    exact h8
  unfold runF at h
  cases hx : ex ⟨f, none⟩ K.next c ⟨⟨Nat.max fn.ntmps args.length, zu2 0 args⟩, [], K⟩ with
  | none => simp [hx] at h
  | some q =>
    obtain ⟨e, st⟩ := q
    rw [hx] at h
    cases e with
    | normal => exact hbody st (.inl hx) h
    | ret => exact hbody st (.inr hx) h
    | exit i => simp at h
end
end Go.Ab
