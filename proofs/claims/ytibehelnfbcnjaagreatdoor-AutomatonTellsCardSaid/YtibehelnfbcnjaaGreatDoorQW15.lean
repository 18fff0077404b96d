/- What the law's proof leans on, part 41. Conditions: in each statement. -/
import Derived.Test.YtibehelnfbcnjaaGreatDoorQW14
set_option linter.all false
set_option linter.unusedSimpArgs false
set_option linter.unusedVariables false
set_option linter.unusedSectionVars false
namespace Go.Ab
open Go Go.RowKit
mutual
theorem zvm (ι ι' : Inj) : ∀ v : AV, v.rf = true → v.conc ι' = v.conc ι
  | .bool _, _ | .int _ _, _ | .str _, _ | .nilp, _ | .nilf, _ | .nili, _ | .map none, _ | .rptr _ _, _ | .rsl _ _ _ _, _ => rfl
  | .ptr _ _, k | .sl _ _ _ _, k | .asl _ _ _ _ _, k | .map (some _), k | .yieldf _, k => by simp [AV.rf] at k
  | .func _ a b, k => by simp only [AV.rf, Bool.and_eq_true] at k; simp only [AV.conc, zmd ι ι' a k.1, zmd ι ι' b k.2]
  | .iface _ v, k => by simp only [AV.rf] at k; simp only [AV.conc, zvm ι ι' v k]
  | .agg l, k | .tup l, k => by simp only [AV.rf] at k; simp only [AV.conc, zmd ι ι' l k]
theorem zmd (ι ι' : Inj) : ∀ l : List AV, AV.rfL l = true → AV.concL ι' l = AV.concL ι l
  | [], _ => rfl
  | v :: vs, k => by simp only [AV.rfL, Bool.and_eq_true] at k; simp only [AV.concL, zvm ι ι' v k.1, zmd ι ι' vs k.2]
end
mutual
theorem zph {w0 w1 : World} {b0 b1 n : Nat} : ∀ v : AV, v.nro = true → v.OK w1 b1 n → v.OK w0 b0 n
  | .bool _, _, _ | .int _ _, _, _ | .str _, _, _ | .nilp, _, _ | .nilf, _, _ | .nili, _, _ | .map none, _, _ => trivial
  | .ptr _ _, _, k | .sl _ _ _ _, _, k | .asl _ _ _ _ _, _, k | .map (some _), _, k | .yieldf _, _, k => k
  | .rptr _ _, h, _ => by simp [AV.nro] at h
  | .rsl none _ _ _, _, k => k
  | .rsl (some _) _ _ _, h, _ => by simp [AV.nro] at h
  | .func _ a b, h, k => by
    simp only [AV.nro, Bool.and_eq_true] at h
    simp only [AV.OK] at k ⊢
    exact ⟨zmw a h.1 k.1, zmw b h.2 k.2⟩
  | .iface _ v, h, k => by simp only [AV.nro] at h; simp only [AV.OK] at k ⊢; exact zph v h k
  | .agg l, h, k => by simp only [AV.nro] at h; simp only [AV.OK] at k ⊢; exact zmw l h k
  | .tup l, h, k => by simp only [AV.nro] at h; simp only [AV.OK] at k ⊢; exact zmw l h k
theorem zmw {w0 w1 : World} {b0 b1 n : Nat} : ∀ l : List AV, AV.nroL l = true → AV.OKL w1 b1 n l → AV.OKL w0 b0 n l
  | [], _, _ => trivial
  | v :: l, h, k => by
    simp only [AV.nroL, Bool.and_eq_true] at h
    exact ⟨zph v h.1 k.1, zmw l h.2 k.2⟩
end
theorem zyf : ∀ l : List AV, AV.nroL l = true ↔ ∀ v ∈ l, v.nro = true
  | [] => by simp [AV.nroL]
  | v :: l => by simp [AV.nroL, zyf l]
theorem BlkOK.nro [E : Env] {w0 w1 : World} {b0 b1 n : Nat} {x : Blk} (h : x.nro = true) (k : BlkOK w1 b1 n x) : BlkOK w0 b0 n x := by
  cases x with
  | cells t c => exact fun v hv => zph v ((zyf c).1 h v hv) (k v hv)
  | map es c =>
    intro e he
    have := List.all_eq_true.1 h e he
    simp only [Bool.and_eq_true] at this
    exact ⟨zph _ this.1 (k e he).1, zph _ this.2 (k e he).2⟩
  | loop _ _ _ _ _ _ _ _ => simp [Blk.nro] at h
  | _ => trivial
theorem zx1 : ∀ {l : List (Option Blk)} {b : Nat} {x : Blk}, zl2 l b = some x → some x ∈ l
  | [], b, x, h => by rw [zf8] at h; cases h
  | y :: l, 0, x, h => by rw [show y = some x from h]; simp
  | y :: l, b + 1, x, h => List.mem_cons_of_mem _ (zx1 (l := l) h)
theorem Heap.nro_get {K : Heap} (h : K.nro = true) {b : Nat} {x : Blk} (hx : K.get b = some x) : x.nro = true :=
  List.all_eq_true.1 h _ (zx1 hx)
section
variable [E : Env] {P : Program} {w0 : World} {base : Nat} {ι : Inj} {H : Heap} {w : World} {ex : ExF}
def In1 (w : World) (ι : Inj) (v v' : AV) : Prop := (∀ ι', v'.conc ι' = v.conc ι) ∧ v'.OK w w.heap.size 0
def InL (w : World) (ι : Inj) (l l' : List AV) : Prop := l'.length = l.length ∧ ∀ (i : Nat) v v', l[i]? = some v → l'[i]? = some v' → In1 w ι v v'
theorem In1.rf (s : Sim P w0 base ι H w) {v : AV} (h : v.rf = true) (k : v.OK w0 base H.next) : In1 w ι v v :=
  ⟨fun ι' => zvm ι ι' v h, OK.here s.hb s.below v (OK.rf v h k)⟩
theorem InL.rf (s : Sim P w0 base ι H w) {l : List AV} (h : AV.rfL l = true) (k : ∀ v ∈ l, v.OK w0 base H.next) : InL w ι l l :=
  ⟨rfl, fun i v v' hv hv' => by
    rw [hv] at hv'; cases hv'
    have hm := List.mem_of_getElem? hv
    exact In1.rf s ((yae4 l).1 h v hm) (k v hm)⟩
theorem InL.mem {l l' : List AV} (h : InL w ι l l') : ∀ v' ∈ l', v'.OK w w.heap.size 0 := by
  intro v' hv
  obtain ⟨i, hi, rfl⟩ := List.mem_iff_getElem.1 hv
  have hi' : i < l.length := by rw [← h.1]; exact hi
  exact (h.2 i l[i] l'[i] (List.getElem?_eq_getElem hi') (List.getElem?_eq_getElem hi)).2
theorem InL.conc {l l' : List AV} (h : InL w ι l l') (ι' : Inj) : AV.concL ι' l' = AV.concL ι l := by
  rw [zaz, zaz]
  apply List.ext_getElem
  · simp [h.1]
  · intro i h1 h2
    simp only [List.getElem_map]
    exact (h.2 i _ _ (List.getElem?_eq_getElem (by simpa using h2)) (List.getElem?_eq_getElem (by simpa using h1))).1 ι'
theorem zyh (s : Sim P w0 base ι H w) {b k : Nat} {t : TypeId} {c : List AV} {u : AV} (hb : H.get b = some (.cells t c)) (hk : c[k]? = some u) : w.cell? ⟨(ι b).1, k, none⟩ = some (u.conc ι) := by
  obtain ⟨cur, ho, ⟨rest, hr⟩, hsz⟩ := s.rel b _ hb
  rw [cell_of_row w _ _ _ _ _ ho, ← Array.getElem?_toList, hr]
  have := (List.getElem?_eq_some_iff.1 hk).1
  rw [List.getElem?_append_left (by simpa using this), List.getElem?_map, hk]; rfl
theorem zm7 (sz : Nat) : ∀ (n : Nat) (c : List AV) (i : Nat) (e : AV), (zot sz n c)[i]? = some e → i < n ∧ e = .agg ((c.drop (i * sz)).take sz)
  | 0, c, i, e, h => by simp [zot] at h
  | n + 1, c, 0, e, h => by simp [zot] at h; subst h; simp
  | n + 1, c, i + 1, e, h => by
    simp only [zot, List.getElem?_cons_succ] at h
    obtain ⟨h1, h2⟩ := zm7 sz n (c.drop sz) i e h
    refine ⟨by omega, ?_⟩
    rw [h2, List.drop_drop, Nat.succ_mul, Nat.add_comm]
theorem zsp (sz : Nat) : ∀ (n : Nat) (c : List AV), (zot sz n c).length = n
  | 0, _ => rfl
  | n + 1, c => by rw [zot, List.length_cons, zsp sz n]
theorem yadh (s : Sim P w0 base ι H w) : ∀ f,
    (∀ v v', zln P ι H f v = some v' → v.OK w0 base H.next → In1 w ι v v') ∧ (∀ l l', zjx P ι H f l = some l' → (∀ v ∈ l, v.OK w0 base H.next) → InL w ι l l') := by
  intro f
  induction f with
  | zero => exact ⟨fun v v' h => by simp [zln] at h, fun l l' h => by simp [zjx] at h⟩
  | succ f ih =>
    obtain ⟨ihV, ihL⟩ := ih
    constructor
    · intro v v' h k
      cases v with
      | sl b i n sz =>
        simp only [zln] at h
        split at h
        · rename_i t c hb
          split at h
          · rename_i g s1 l hg hs hl
            split at h
            · rename_i hc
              cases h
              simp only [Bool.and_eq_true, decide_eq_true_eq] at hc
              obtain ⟨⟨⟨hc1, hc2⟩, hc3⟩, hc4⟩ := hc
              subst hc1
              have L := ihL _ _ hl fun u hu => s.ok b _ hb u (List.mem_of_mem_drop (List.mem_of_mem_take hu))
              have hlen : l.length = n * s1 := by
                rw [L.1, List.length_take, List.length_drop]
                rw [Nat.add_mul] at hc3
                omega
              have hcells := za9 hs
              obtain ⟨cur, ho, ⟨rest, hr⟩, hsz⟩ := s.rel b _ hb
              have hcap : i + n ≤ (ι b).2 := by
                have h1 : cur.size = c.length + rest.length := by
                  have := congrArg List.length hr
                  simpa using this
                rw [hcells] at hsz
                have : (i + n) * s1 ≤ (ι b).2 * s1 := by omega
                exact Nat.le_of_mul_le_mul_right this hc2
              have hblt := s.blt hb
              have hel : (if g = true then zot s1 n l else l).length = n := by
                cases g with
                | true => simp [zsp]
                | false =>
                  simp only [Bool.false_or, Bool.and_eq_true, beq_iff_eq] at hc4
                  simp [hlen, hc4.1]
              have hcell : ∀ j u, l[j]? = some u → ∀ ι', w.cell? ⟨(ι b).1, i * s1 + j, none⟩ = some (u.conc ι') := by
                intro j u hu ι'
                have hj : j < n * s1 := by rw [← hlen]; exact (List.getElem?_eq_some_iff.1 hu).1
                have hc5 : i * s1 + j < c.length := by rw [Nat.add_mul] at hc3; omega
                have e : ((c.drop (i * s1)).take (n * s1))[j]? = some c[i * s1 + j] := by
                  rw [List.getElem?_take, if_pos hj, List.getElem?_drop, List.getElem?_eq_getElem hc5]
                rw [(L.2 j _ u e hu).1 ι']
                exact zyh s hb (List.getElem?_eq_getElem hc5)
              refine ⟨fun ι' => ?_, ?_⟩
              · simp only [AV.conc, hel]
              · simp only [AV.OK]
                refine ⟨by rw [hel]; omega, fun ι' j e he => ?_, ?_⟩
                · refine ⟨hblt, ?_⟩
                  cases g with
                  | true =>
                    rw [if_pos rfl] at he
                    obtain ⟨hj, rfl⟩ := zm7 s1 n l j e he
                    have hj2 : j * s1 + s1 ≤ n * s1 := by rw [← Nat.succ_mul]; exact Nat.mul_le_mul_right _ hj
                    refine ⟨by simp only [AV.cells, List.length_take, List.length_drop]; omega, fun q u hu => ?_⟩
                    simp only [AV.cells] at hu
                    rw [List.getElem?_take] at hu
                    split at hu
                    · rw [List.getElem?_drop] at hu
                      rw [zb7, zb7, Nat.add_assoc]
                      exact hcell _ u hu ι'
                    · cases hu
                  | false =>
                    simp only [Bool.false_or, Bool.and_eq_true, beq_iff_eq] at hc4
                    rw [if_neg (by simp)] at he
                    have hlf : zdf e = true := List.all_eq_true.1 hc4.2 e (List.mem_of_getElem? he)
                    rw [zqp hlf]
                    refine ⟨by simp [hc4.1], fun q u hu => ?_⟩
                    cases q with
                    | zero =>
                      simp only [List.getElem?_cons_zero, Option.some.injEq] at hu
                      subst hu
                      rw [zb7, zb7, hc4.1, Nat.mul_one, Nat.mul_one, Nat.add_zero]
                      have := hcell j e he ι'
                      rw [hc4.1, Nat.mul_one] at this; exact this
                    | succ q => simp at hu
                · rw [zar]
                  intro e he
                  cases g with
                  | true =>
                    rw [if_pos rfl] at he
                    obtain ⟨j, hj, he'⟩ := List.mem_iff_getElem.1 he
                    obtain ⟨_, rfl⟩ := zm7 s1 n l j e (by rw [← he']; exact List.getElem?_eq_getElem hj)
                    simp only [AV.OK]
                    rw [zar]
                    exact fun u hu => L.mem u (List.mem_of_mem_drop (List.mem_of_mem_take hu))
                  | false =>
                    rw [if_neg (by simp)] at he
                    exact L.mem e he
            · cases h
          · cases h
        · cases h
      | asl _ _ _ _ _ => simp [zln] at h
      | ptr b o =>
        simp only [zln] at h
        split at h
        · rename_i t c hb
          simp only [Option.map_eq_some_iff] at h
          obtain ⟨l, hl, rfl⟩ := h
          have L := ihL _ _ hl fun u hu => s.ok b _ hb u (List.mem_of_mem_drop hu)
          have hblt := s.blt hb
          refine ⟨fun ι' => rfl, ?_⟩
          simp only [AV.OK]
          refine ⟨hblt, fun ι' j u hu => ?_, (zar ..).2 L.mem⟩
          have hj : j < (c.drop o).length := by rw [← L.1]; exact (List.getElem?_eq_some_iff.1 hu).1
          have hj2 : o + j < c.length := by rw [List.length_drop] at hj; omega
          have e : (c.drop o)[j]? = some c[o + j] := by rw [List.getElem?_drop, List.getElem?_eq_getElem hj2]
          rw [zb7, (L.2 j _ u e hu).1 ι']
          exact zyh s hb (List.getElem?_eq_getElem hj2)
        · cases h
      | map m =>
        cases m with
        | none => simp only [zln, Option.some.injEq] at h; subst h; exact In1.rf s rfl k
        | some b => simp [zln] at h
      | yieldf b => simp [zln] at h
      | func g a b =>
        simp only [zln] at h
        split at h
        · rename_i a' b' ha hb
          cases h
          simp only [AV.OK] at k
          have A := ihL _ _ ha ((zar ..).1 k.1)
          have B := ihL _ _ hb ((zar ..).1 k.2)
          refine ⟨fun ι' => by simp only [AV.conc, A.conc ι', B.conc ι'], ?_⟩
          simp only [AV.OK]
          exact ⟨(zar ..).2 A.mem, (zar ..).2 B.mem⟩
        · cases h
      | iface t v =>
        simp only [zln, Option.map_eq_some_iff] at h
        obtain ⟨u, hu, rfl⟩ := h
        simp only [AV.OK] at k
        have A := ihV _ _ hu k
        exact ⟨fun ι' => by simp only [AV.conc, A.1 ι'], by simp only [AV.OK]; exact A.2⟩
      | agg l =>
        simp only [zln, Option.map_eq_some_iff] at h
        obtain ⟨u, hu, rfl⟩ := h
        simp only [AV.OK] at k
        have A := ihL _ _ hu ((zar ..).1 k)
        exact ⟨fun ι' => by simp only [AV.conc, A.conc ι'], by simp only [AV.OK]; exact (zar ..).2 A.mem⟩
      | tup l =>
        simp only [zln, Option.map_eq_some_iff] at h
        obtain ⟨u, hu, rfl⟩ := h
        simp only [AV.OK] at k
        have A := ihL _ _ hu ((zar ..).1 k)
        exact ⟨fun ι' => by simp only [AV.conc, A.conc ι'], by simp only [AV.OK]; exact (zar ..).2 A.mem⟩
      | _ => simp only [zln, Option.some.injEq] at h; subst h; exact In1.rf s rfl k
    · intro l l' h k
      cases l with
      | nil => simp only [zjx, Option.some.injEq] at h; subst h; exact ⟨rfl, fun i v v' hv => by simp at hv⟩
      | cons v l =>
        simp only [zjx] at h
        split at h
        · rename_i hr
          cases h
          exact InL.rf s hr k
        · split at h
          · rename_i v1 l1 hv hl
            cases h
            have A := ihV _ _ hv (k v (by simp))
            have B := ihL _ _ hl fun u hu => k u (by simp [hu])
            refine ⟨by simp [B.1], fun i u u' hu hu' => ?_⟩
            cases i with
            | zero => simp at hu hu'; subst hu; subst hu'; exact A
            | succ i => exact B.2 i u u' (by simpa using hu) (by simpa using hu')
          · cases h
theorem yabi {α : Type} {g : (Nat → Nat × Nat) → Option α} {r : α} (h : zzh g = some r) (κ : Nat → Nat × Nat) : g κ = some r := by
  unfold zzh at h
  split at h
  · rename_i hx
    cases h
    exact hx.choose_spec κ
  · cases h
theorem zm4 (hS : zks P ex) (s : Sim P w0 base ι H w) {f : FuncId} {args : List AV} {v : AV} {H' : Heap} (h : zji P ex 0 f args H = some (v, H')) (hargs : ∀ a ∈ args, a.OK w0 base H.next) (cs : List Frame) :
    (∃ fn c, P.funcs[f]? = some fn ∧ fn.body = some c) ∧
    ∃ ι' w' fr, Post P w0 base 0 ι H w ι' H' w' ∧ v.OK w0 base H'.next ∧ Steps P (lone (Frame.enter P f (args.map (AV.conc ι)).toArray .normal) cs w) (lone fr cs w') ∧ fr.leaving P w' (.returned (v.conc ι')) ∧ fr.fn = f := by
  unfold zji at h
  cases hb : E.inl f && !AV.rfL args with
  | true =>
    simp only [hb, cond_true] at h
    cases hk : zzh fun κ => (zjx P κ H 1000 args).bind fun as => zas P ex f as Heap.empty with
    | none => rw [hk] at h; cases h
    | some r =>
    obtain ⟨v1, K⟩ := r
    rw [hk] at h
    simp only [roG] at h
    split at h
    · rename_i hro
      cases h
      simp only [Bool.and_eq_true] at hro
      have hrun := yabi hk ι
      cases hi : zjx P ι H 1000 args with
      | none => rw [hi] at hrun; cases hrun
      | some as =>
      rw [hi, Option.bind_some] at hrun
      have L := (yadh s 1000).2 _ _ hi hargs
      have s1 : Sim P w w.heap.size ι Heap.empty w :=
        { below := Below.refl _ _, hb := Nat.le_refl _, gl := fun g u hu => ⟨OK.here s.hb s.below u (s.gl g u hu).1, (s.gl g u hu).2⟩, inj := (fun b b' x x' hx => by rw [Heap.get_empty] at hx; cases hx), lt := (fun b x hx => by rw [Heap.get_empty] at hx; cases hx),
          lo := (fun b x hx => by rw [Heap.get_empty] at hx; cases hx), ok := (fun b x hx => by rw [Heap.get_empty] at hx; cases hx), rel := (fun b x hx => by rw [Heap.get_empty] at hx; cases hx) }
      obtain ⟨hfn, hlen, ι', w', fr, p, hv, hst, hlv, hfr⟩ := zk8 hS s1 hrun L.mem cs
      refine ⟨hfn, ?_⟩
      have hargs' : (as.map (AV.conc ι)).toArray = (args.map (AV.conc ι)).toArray := by
        have := L.conc ι
        rw [zaz, zaz] at this
        rw [this]
      rw [hargs'] at hst
      have hbw : base ≤ w.heap.size := Nat.le_trans s.hb s.below.size
      have s2 : Sim P w0 base ι' K w' :=
        { below := s.below.trans (p.sim.below.mono hbw), hb := s.hb, gl := s.gl, inj := p.sim.inj, lt := p.sim.lt, lo := fun b x hx => Nat.le_trans hbw (p.sim.lo b x hx),
          ok := fun b x hx => (p.sim.ok b x hx).nro (Heap.nro_get hro.2 hx), rel := p.sim.rel }
      have p2 : CPost P w0 base ([] : List Nat).length (znk ι []) (H.part []) w ι' K w' :=
        { sim := s2, ext := fun b hb => (by simp at hb), hpin := Nat.zero_le _, alive := fun b x hb => (by simp at hb), size := p.size,
          frame := fun r hr _ => p.frame r hr fun b x hx => (by rw [Heap.get_empty] at hx; cases hx),
          newr := fun b x hx => .inl ((p.newr b x hx).resolve_right fun ⟨b0, x0, h0, _⟩ => (by rw [Heap.get_empty] at h0; cases h0)) }
      obtain ⟨q1, q2⟩ := zps s (ord := []) ⟨by simp, by simp⟩ (by simp) hlen p2
      obtain ⟨q3, q4⟩ := q2 v1 (zph v1 hro.1 hv)
      exact ⟨_, w', fr, q1, q3, hst, by rw [q4]; exact hlv, hfr⟩
    · cases h
  | false =>
    simp only [hb, cond_false] at h
    cases ho : zdu H 100000 (AV.refsL args) [] with
    | none => rw [ho] at h; cases h
    | some ord =>
    rw [ho] at h
    simp only at h
    cases hr : zas P ex f (AV.renL (zgo ord) args) (H.part ord) with
    | none => rw [hr] at h; cases h
    | some r =>
    obtain ⟨v1, K⟩ := r
    rw [hr] at h
    simp only [rwG] at h
    rw [if_pos (@decide_eq_true _ (_) fun b _ hb => absurd hb (Nat.not_lt_zero b))] at h
    cases h
    obtain ⟨_, h2, h3, h4⟩ := zh6 H _ _ _ _ ho (by simp) (by simp)
    have hs : Shut H ord := ⟨h3, h4⟩
    have hlt : ∀ b ∈ ord, b < H.next := zh5 H H.next (fun b c hc => by
      cases hx : H.get b with
      | none => rw [hx] at hc; cases hc
      | some x => rw [hx] at hc; exact (s.ok b x hx).refs c hc) _ _ _ _ ho (fun b hb => zh7 args ((zar ..).2 hargs) b hb) (by simp)
    have hin : ∀ b ∈ AV.refsL args, b ∈ ord := h2
    obtain ⟨hfn, hlen, ι', w', fr, p, hv, hst, hlv, hfr⟩ := zk8 hS (s.part hs) hr (fun a ha => by
      rw [zwm] at ha
      obtain ⟨u, hu, rfl⟩ := List.mem_map.1 ha
      exact zif u (hargs u hu) fun b hb => zk5 (hin b (zhm hu hb))) cs
    refine ⟨hfn, ?_⟩
    have hargs' : ((AV.renL (zgo ord) args).map (AV.conc (znk ι ord))).toArray = (args.map (AV.conc ι)).toArray := by
      have := zed (ρ := zgo ord) (ι1 := ι) (ι2 := znk ι ord) args fun b hb => zg7 (hin b hb)
      rw [zaz, zaz] at this
      rw [this]
    rw [hargs'] at hst
    obtain ⟨q1, q2⟩ := zps s hs hlt hlen p
    obtain ⟨q3, q4⟩ := q2 v1 hv
    exact ⟨_, w', fr, q1, q3, hst, by rw [q4]; exact hlv, hfr⟩
end
end Go.Ab
