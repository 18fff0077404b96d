/- What the law's proof leans on, part 38. Conditions: in each statement. -/
import Derived.Test.YtibehelnfbcnjaaGreatDoorQW12
set_option linter.all false
set_option linter.unusedSimpArgs false
set_option linter.unusedVariables false
set_option linter.unusedSectionVars false
namespace Go.Ab
open Go Go.RowKit
mutual
theorem zf2 {ρ : Nat → Nat} {ι1 ι2 : Inj} : ∀ v : AV, (∀ b ∈ v.refs, ι2 (ρ b) = ι1 b) → (v.ren ρ).conc ι2 = v.conc ι1
  | .bool _, _ | .int _ _, _ | .str _, _ | .nilp, _ | .nilf, _ | .nili, _ | .map none, _ | .rptr _ _, _ | .rsl _ _ _ _, _ => rfl
  | .ptr b o, h => by simp only [AV.ren, AV.conc, h b (by simp [AV.refs])]
  | .sl b i n sz, h => by simp only [AV.ren, AV.conc, h b (by simp [AV.refs])]
  | .asl b o n c sz, h => by simp only [AV.ren, AV.conc, h b (by simp [AV.refs])]
  | .map (some b), h => by simp only [AV.ren, AV.conc, h b (by simp [AV.refs])]
  | .yieldf b, h => by simp only [AV.ren, AV.conc, h b (by simp [AV.refs])]
  | .func f x y, h => by
    simp only [AV.ren, AV.conc]
    rw [zed x fun b hb => h b (by simp [AV.refs, hb]), zed y fun b hb => h b (by simp [AV.refs, hb])]
  | .iface t v, h => by simp only [AV.ren, AV.conc, zf2 v h]
  | .agg l, h => by simp only [AV.ren, AV.conc, zed l h]
  | .tup l, h => by simp only [AV.ren, AV.conc, zed l h]
theorem zed {ρ : Nat → Nat} {ι1 ι2 : Inj} : ∀ l : List AV, (∀ b ∈ AV.refsL l, ι2 (ρ b) = ι1 b) → AV.concL ι2 (AV.renL ρ l) = AV.concL ι1 l
  | [], _ => rfl
  | v :: l, h => by
    simp only [AV.renL, AV.concL]
    rw [zf2 v fun b hb => h b (by simp [AV.refsL, hb]), zed l fun b hb => h b (by simp [AV.refsL, hb])]
end
mutual
theorem zif {w0 : World} {base n m : Nat} {ρ : Nat → Nat} : ∀ v : AV, v.OK w0 base n → (∀ b ∈ v.refs, ρ b < m) → (v.ren ρ).OK w0 base m
  | .bool _, _, _ | .int _ _, _, _ | .str _, _, _ | .nilp, _, _ | .nilf, _, _ | .nili, _, _ | .map none, _, _ => trivial
  | .rptr a cs, h, _ => h
  | .rsl none c s l, h, _ => h
  | .rsl (some a) c s l, h, _ => h
  | .ptr b o, _, h => h b (by simp [AV.refs])
  | .sl b i n sz, _, h => h b (by simp [AV.refs])
  | .asl b o n c sz, _, h => h b (by simp [AV.refs])
  | .map (some b), _, h => h b (by simp [AV.refs])
  | .yieldf b, _, h => h b (by simp [AV.refs])
  | .func f x y, k, h => by
    simp only [AV.OK] at k
    simp only [AV.ren, AV.OK]
    exact ⟨zmx x k.1 fun b hb => h b (by simp [AV.refs, hb]), zmx y k.2 fun b hb => h b (by simp [AV.refs, hb])⟩
  | .iface t v, k, h => by simp only [AV.OK] at k; simp only [AV.ren, AV.OK]; exact zif v k h
  | .agg l, k, h => by simp only [AV.OK] at k; simp only [AV.ren, AV.OK]; exact zmx l k h
  | .tup l, k, h => by simp only [AV.OK] at k; simp only [AV.ren, AV.OK]; exact zmx l k h
theorem zmx {w0 : World} {base n m : Nat} {ρ : Nat → Nat} : ∀ l : List AV, AV.OKL w0 base n l → (∀ b ∈ AV.refsL l, ρ b < m) → AV.OKL w0 base m (AV.renL ρ l)
  | [], _, _ => trivial
  | v :: l, k, h => ⟨zif v k.1 fun b hb => h b (by simp [AV.refsL, hb]), zmx l k.2 fun b hb => h b (by simp [AV.refsL, hb])⟩
end
mutual
theorem zhn {w0 : World} {base n : Nat} : ∀ v : AV, v.OK w0 base n → ∀ b ∈ v.refs, b < n
  | .bool _, _, _, h | .int _ _, _, _, h | .str _, _, _, h | .nilp, _, _, h | .nilf, _, _, h | .nili, _, _, h | .map none, _, _, h | .rptr _ _, _, _, h | .rsl _ _ _ _, _, _, h => by simp [AV.refs] at h
  | .ptr b o, k, c, h | .sl b _ _ _, k, c, h | .asl b _ _ _ _, k, c, h | .map (some b), k, c, h | .yieldf b, k, c, h => by
    simp only [AV.refs, List.mem_singleton] at h; subst h; exact k
  | .func f x y, k, c, h => by
    simp only [AV.OK] at k
    simp only [AV.refs, List.mem_append] at h
    exact h.elim (zh7 x k.1 c) (zh7 y k.2 c)
  | .iface t v, k, c, h => by simp only [AV.OK] at k; exact zhn v k c h
  | .agg l, k, c, h => by simp only [AV.OK] at k; exact zh7 l k c h
  | .tup l, k, c, h => by simp only [AV.OK] at k; exact zh7 l k c h
theorem zh7 {w0 : World} {base n : Nat} : ∀ l : List AV, AV.OKL w0 base n l → ∀ b ∈ AV.refsL l, b < n
  | [], _, _, h => by simp [AV.refsL] at h
  | v :: l, k, c, h => by
    simp only [AV.refsL, List.mem_append] at h
    exact h.elim (zhn v k.1 c) (zh7 l k.2 c)
end
theorem zhm {l : List AV} {v : AV} {b : Nat} (h : v ∈ l) (hb : b ∈ v.refs) : b ∈ AV.refsL l := by
  induction l with
  | nil => cases h
  | cons x l ih =>
    simp only [AV.refsL, List.mem_append]
    rcases List.mem_cons.1 h with rfl | h
    · exact .inl hb
    · exact .inr (ih h)
theorem zuc {l : List AV} {b : Nat} : b ∈ AV.refsL l ↔ ∃ v ∈ l, b ∈ v.refs := by
  induction l with
  | nil => simp [AV.refsL]
  | cons x l ih => simp [AV.refsL, ih]
theorem zwm {ρ : Nat → Nat} : ∀ l : List AV, AV.renL ρ l = l.map (AV.ren ρ)
  | [] => rfl
  | v :: l => by rw [AV.renL, zwm l]; rfl
theorem zop {ρ : Nat → Nat} : ∀ s : List (Nat × AV), vals (zyq ρ s) = (vals s).map (AV.ren ρ)
  | [] => rfl
  | (k, v) :: s => by rw [zyq, vals, zop s]; rfl
theorem ztr {ρ : Nat → Nat} {t : Nat} : ∀ s : List (Nat × AV), zbb (zyq ρ s) t = (zbb s t).map (AV.ren ρ)
  | [] => rfl
  | (k, v) :: s => by
    simp only [zyq, zbb]
    split
    · rfl
    · exact ztr s
theorem TR.ren {ρ : Nat → Nat} {ι1 ι2 : Inj} {e : EV} {tv : Array Value} (r : TR ι1 e tv) (h : ∀ b ∈ AV.refsL (vals e.s), ι2 (ρ b) = ι1 b) : TR ι2 (e.ren ρ) tv := by
  refine ⟨r.1, fun t v hv => ?_⟩
  have hv' : zbb (zyq ρ e.s) t = some v := hv
  rw [ztr, Option.map_eq_some_iff] at hv'
  obtain ⟨u, hu, rfl⟩ := hv'
  rw [r.2 t u hu, zf2 u fun b hb => h b (zhm (zga hu) hb)]
theorem BlkRel.ren {P : Program} {ρ : Nat → Nat} {ι1 ι2 : Inj} {x : Blk} {cap : Nat} {o : Option Obj} (r : BlkRel P ι1 cap o x) (h : ∀ b ∈ x.refs, ι2 (ρ b) = ι1 b) : BlkRel P ι2 cap o (x.ren ρ) := by
  cases x with
  | cells t cs =>
    obtain ⟨c, ho, ⟨rest, hr⟩, hs⟩ := r
    refine ⟨c, ho, ⟨rest, ?_⟩, hs⟩
    rw [hr, ← zaz, ← zaz, zed cs h]
  | map es c =>
    simp only [BlkRel, Blk.ren, zal] at r ⊢
    rw [r]
    congr 2
    rw [List.map_map]
    refine congrArg List.toArray (List.map_congr_left fun e he => ?_)
    simp only [Function.comp]
    rw [zf2 e.1 fun b hb => h b ?_, zf2 e.2.1 fun b hb => h b ?_]
    · simp only [Blk.refs, List.mem_flatMap, List.mem_append]; exact ⟨e, he, .inr hb⟩
    · simp only [Blk.refs, List.mem_flatMap, List.mem_append]; exact ⟨e, he, .inl hb⟩
  | iter s p => exact r
  | loop st pend fn tmps params assign body d =>
    obtain ⟨tv, h1, h2⟩ := r
    exact ⟨tv, h1.ren fun b hb => h b (by simp [Blk.refs, hb]), by rw [h2, h d (by simp [Blk.refs])]⟩
  | dfr => exact r
theorem BlkOK.ren [E : Env] {w0 : World} {base n m : Nat} {ρ : Nat → Nat} {x : Blk} (k : BlkOK w0 base n x) (h : ∀ b ∈ x.refs, ρ b < m) : BlkOK w0 base m (x.ren ρ) := by
  cases x with
  | cells t c =>
    simp only [BlkOK, Blk.ren, zwm]
    intro v hv
    obtain ⟨u, hu, rfl⟩ := List.mem_map.1 hv
    exact zif u (k u hu) fun b hb => h b (zhm hu hb)
  | map es c =>
    intro e he
    obtain ⟨u, hu, rfl⟩ := List.mem_map.1 he
    exact ⟨zif _ (k u hu).1 fun b hb => h b (by simp only [Blk.refs, List.mem_flatMap, List.mem_append]; exact ⟨u, hu, .inl hb⟩), zif _ (k u hu).2 fun b hb => h b (by simp only [Blk.refs, List.mem_flatMap, List.mem_append]; exact ⟨u, hu, .inr hb⟩)⟩
  | loop st pend fn tmps params assign body d =>
    refine ⟨fun v hv => ?_, h d (by simp [Blk.refs])⟩
    have hv' : v ∈ vals (zyq ρ tmps.s) := hv
    rw [zop] at hv'
    obtain ⟨u, hu, rfl⟩ := List.mem_map.1 hv'
    exact zif u (k.1 u hu) fun b hb => h b (by simp only [Blk.refs, List.mem_append]; exact .inl (zhm hu hb))
  | _ => trivial
theorem BlkOK.refs [E : Env] {w0 : World} {base n : Nat} {x : Blk} (k : BlkOK w0 base n x) : ∀ b ∈ x.refs, b < n := by
  intro b hb
  cases x with
  | cells t c =>
    obtain ⟨v, hv, hb⟩ := zuc.1 hb
    exact zhn v (k v hv) b hb
  | map es c =>
    simp only [Blk.refs, List.mem_flatMap, List.mem_append] at hb
    obtain ⟨e, he, hb⟩ := hb
    exact hb.elim (zhn _ (k e he).1 b) (zhn _ (k e he).2 b)
  | loop st pend fn tmps params assign body d =>
    simp only [Blk.refs, List.mem_append, List.mem_singleton] at hb
    rcases hb with hb | rfl
    · obtain ⟨v, hv, hb⟩ := zuc.1 hb
      exact zhn v (k.1 v hv) b hb
    · exact k.2
  | iter s p => simp [Blk.refs] at hb
  | dfr => simp [Blk.refs] at hb
theorem zh6 (H : Heap) : ∀ (f : Nat) (todo acc ord : List Nat), zdu H f todo acc = some ord → (∀ b ∈ acc, ∀ c ∈ zma (H.get b), c ∈ acc ∨ c ∈ todo) → acc.Nodup →
    acc <+: ord ∧ (∀ b ∈ todo, b ∈ ord) ∧ (∀ b ∈ ord, ∀ c ∈ zma (H.get b), c ∈ ord) ∧ ord.Nodup
  | f, [], acc, ord, h, hi, hn => by
    have : acc = ord := by cases f <;> (simp only [zdu, Option.some.injEq] at h; exact h)
    subst this
    exact ⟨List.prefix_rfl, by simp, fun b hb c hc => (hi b hb c hc).elim id (by simp), hn⟩
  | 0, _ :: _, acc, ord, h, _, _ => by simp [zdu] at h
  | f + 1, b :: todo, acc, ord, h, hi, hn => by
    simp only [zdu] at h
    split at h
    · rename_i hb
      have hb' : b ∈ acc := by simpa using hb
      obtain ⟨h1, h2, h3, h4⟩ := zh6 H f todo acc ord h (fun x hx c hc => (hi x hx c hc).elim .inl fun h => (List.mem_cons.1 h).elim (fun e => .inl (e ▸ hb')) .inr) hn
      exact ⟨h1, fun x hx => (List.mem_cons.1 hx).elim (fun e => e ▸ h1.subset hb') (h2 x), h3, h4⟩
    · rename_i hb
      have hb' : b ∉ acc := by simpa using hb
      obtain ⟨h1, h2, h3, h4⟩ := zh6 H f (todo ++ zma (H.get b)) (acc ++ [b]) ord h (fun x hx c hc => by
        rcases List.mem_append.1 hx with hx | hx
        · rcases hi x hx c hc with h | h
          · exact .inl (by simp [h])
          · rcases List.mem_cons.1 h with rfl | h
            · exact .inl (by simp)
            · exact .inr (by simp [h])
        · rw [List.mem_singleton.1 hx] at hc
          exact .inr (by simp [hc])) (List.nodup_append.2 ⟨hn, by simp, fun x hx y hy => by rw [List.mem_singleton.1 hy]; rintro rfl; exact hb' hx⟩)
      refine ⟨List.IsPrefix.trans (List.prefix_append _ _) h1, fun x hx => ?_, h3, h4⟩
      rcases List.mem_cons.1 hx with rfl | hx
      · exact h1.subset (by simp)
      · exact h2 x (by simp [hx])
theorem zh5 (H : Heap) (n : Nat) (hH : ∀ b, ∀ c ∈ zma (H.get b), c < n) : ∀ (f : Nat) (todo acc ord : List Nat), zdu H f todo acc = some ord → (∀ b ∈ todo, b < n) → (∀ b ∈ acc, b < n) → ∀ b ∈ ord, b < n
  | f, [], acc, ord, h, _, ha => by
    have : acc = ord := by cases f <;> (simp only [zdu, Option.some.injEq] at h; exact h)
    subst this; exact ha
  | 0, _ :: _, acc, ord, h, _, _ => by simp [zdu] at h
  | f + 1, b :: todo, acc, ord, h, ht, ha => by
    simp only [zdu] at h
    split at h
    · exact zh5 H n hH f todo acc ord h (fun x hx => ht x (by simp [hx])) ha
    · refine zh5 H n hH f _ _ ord h (fun x hx => ?_) (fun x hx => ?_)
      · exact (List.mem_append.1 hx).elim (fun h => ht x (by simp [h])) (hH b x)
      · exact (List.mem_append.1 hx).elim (ha x) fun h => by rw [List.mem_singleton.1 h]; exact ht b (by simp)
theorem zmo : ∀ {ord : List Nat} {b : Nat}, b ∈ ord → ord[zgo ord b]? = some b
  | a :: l, b, h => by
    simp only [zgo]
    split
    · rename_i e; subst e; rfl
    · rename_i e
      rw [List.getElem?_cons_succ]
      exact zmo ((List.mem_cons.1 h).resolve_left e)
theorem zk5 {ord : List Nat} {b : Nat} (h : b ∈ ord) : zgo ord b < ord.length := by
  have := zmo h
  exact (List.getElem?_eq_some_iff.1 this).1
theorem zwj : ∀ {ord : List Nat} {j b : Nat}, ord.Nodup → ord[j]? = some b → zgo ord b = j
  | a :: l, 0, b, hn, h => by cases h; simp [zgo]
  | a :: l, j + 1, b, hn, h => by
    rw [List.getElem?_cons_succ] at h
    have hb : b ∈ l := List.mem_of_getElem? h
    have ne : b ≠ a := fun e => (List.nodup_cons.1 hn).1 (e ▸ hb)
    simp only [zgo, if_neg ne, zwj (List.nodup_cons.1 hn).2 h]
theorem zyk (H : Heap) (ρ : Nat → Nat) : ∀ (l : List Nat) (j : Nat), zl2 (pick H ρ l) j = (l[j]?).bind fun b => (H.get b).map (Blk.ren ρ)
  | [], j => by simp [pick, zf8]
  | b :: l, 0 => rfl
  | b :: l, j + 1 => by rw [pick, zl2, List.getElem?_cons_succ]; exact zyk H ρ l j
theorem ze3 (H : Heap) (ord : List Nat) (j : Nat) : (H.part ord).get j = (ord[j]?).bind fun b => (H.get b).map (Blk.ren (zgo ord)) := zyk H _ ord j
structure Shut (H : Heap) (ord : List Nat) : Prop where
  shut : ∀ b ∈ ord, ∀ c ∈ zma (H.get b), c ∈ ord
  nodup : ord.Nodup
def znk (ι : Inj) (ord : List Nat) : Inj := fun j => ι (ord.getD j 0)
theorem zg7 {ι : Inj} {ord : List Nat} {b : Nat} (h : b ∈ ord) : znk ι ord (zgo ord b) = ι b := by
  unfold znk
  rw [List.getD_eq_getElem?_getD, zmo h]; rfl
section
variable [E : Env] {P : Program} {w0 : World} {base : Nat} {ι : Inj} {H : Heap} {w : World}
theorem Sim.part (s : Sim P w0 base ι H w) {ord : List Nat} (hs : Shut H ord) : Sim P w0 base (znk ι ord) (H.part ord) w := by
  have get : ∀ j x, (H.part ord).get j = some x → ∃ b y, ord[j]? = some b ∧ H.get b = some y ∧ x = y.ren (zgo ord) ∧ znk ι ord j = ι b := by
    intro j x hx
    rw [ze3] at hx
    cases hj : ord[j]? with
    | none => rw [hj] at hx; cases hx
    | some b =>
      rw [hj] at hx
      simp only [Option.bind_some, Option.map_eq_some_iff] at hx
      obtain ⟨y, hy, rfl⟩ := hx
      exact ⟨b, y, rfl, hy, rfl, by unfold znk; rw [List.getD_eq_getElem?_getD, hj]; rfl⟩
  have ref : ∀ b y, b ∈ ord → H.get b = some y → ∀ c ∈ y.refs, c ∈ ord := fun b y hb hy c hc => hs.shut b hb c (by rw [hy]; exact hc)
  refine ⟨s.below, s.hb, s.gl, fun j j' x x' hx hx' he => ?_, fun j x hx => ?_, fun j x hx => ?_, fun j x hx => ?_, fun j x hx => ?_⟩
  · obtain ⟨b, y, h1, h2, _, h4⟩ := get j x hx
    obtain ⟨b', y', h1', h2', _, h4'⟩ := get j' x' hx'
    rw [h4, h4'] at he
    have := s.inj b b' y y' h2 h2' he
    subst this
    rw [← zwj hs.nodup h1, zwj hs.nodup h1']
  · obtain ⟨b, y, h1, _⟩ := get j x hx
    exact (List.getElem?_eq_some_iff.1 h1).1
  · obtain ⟨b, y, h1, h2, _, h4⟩ := get j x hx
    rw [h4]; exact s.lo b y h2
  · obtain ⟨b, y, h1, h2, rfl, h4⟩ := get j x hx
    exact (s.ok b y h2).ren fun c hc => zk5 (ref b y (List.mem_of_getElem? h1) h2 c hc)
  · obtain ⟨b, y, h1, h2, rfl, h4⟩ := get j x hx
    rw [h4]
    exact (s.rel b y h2).ren fun c hc => zg7 (ref b y (List.mem_of_getElem? h1) h2 c hc)
end
end Go.Ab
