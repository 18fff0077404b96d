/- What the law's proof leans on, part 43. Conditions: in each statement. -/
import Derived.Test.YtibehelnfbcnjaaGreatDoorQW16
import Derived.Orders
set_option linter.all false
set_option linter.unusedSimpArgs false
set_option linter.unusedVariables false
set_option linter.unusedSectionVars false
namespace Go.Ab
open Go Go.RowKit
section
variable {P : Program} {w0 : World} {base : Nat} {ι ι0 ι1 ι2 : Inj} {H H1 H2 : Heap} {w w00 w1 w2 : World} {ex : ExF}
theorem zo1 [E : Env] {env : EV} {o : Oper} {v : AV} {H' : Heap} (hf : zd2 o.op = true) (h : opA P ex 0 env H o = some (v, H')) (K : Heap) (hK : K.next = H.next) :
    (H' = H ∧ opA P ex 0 env K o = some (v, K)) ∨ ∃ x, H' = H.push x ∧ opA P ex 0 env K o = some (v, K.push x) := by
  have hna : opA P ex 0 env H o = aop P 0 env H o ∧ opA P ex 0 env K o = aop P 0 env K o := by
    constructor <;> (unfold opA; split <;> first | rfl | (rename_i hop; rw [hop] at hf; simp [zd2] at hf))
  rw [hna.1] at h
  rw [hna.2]
  obtain ⟨dst, op, type, pos, after, guard⟩ := o
  have pureCase : ∀ (r : Option AV), r.map (fun v => (v, H)) = some (v, H') → (H' = H ∧ r.map (fun v => (v, K)) = some (v, K)) := fun r hr => by
    obtain ⟨y, hy, e⟩ := zl7 hr; cases e; exact ⟨rfl, by simp [hy]⟩
  cases op <;> simp [zd2] at hf
  case move x => exact .inl (pureCase _ h)
  case assign x => exact .inl (pureCase _ h)
  case pick c a b =>
    simp only [aop] at h ⊢
    split at h
    · exact .inl (pureCase _ h)
    · cases h
  case alloc t =>
    simp only [aop] at h ⊢
    cases hz : zd8 P t with
    | none => simp [hz] at h
    | some z =>
      cases hs : za0 P t with
      | none => simp [hz, hs] at h
      | some sz =>
        simp only [hz, hs] at h ⊢
        split at h
        · rename_i hc; cases h; exact .inr ⟨_, rfl, by rw [if_pos hc, hK]⟩
        · cases h
  case box t x =>
    simp only [aop] at h ⊢
    cases hz : zau env x with
    | none => simp [hz] at h
    | some z =>
      cases hs : za0 P t with
      | none => simp [hz, hs] at h
      | some sz =>
        simp only [hz, hs] at h ⊢
        split at h
        · rename_i hc; cases h; exact .inr ⟨_, rfl, by rw [if_pos hc, hK]⟩
        · cases h
  case build t ps =>
    obtain ⟨q, hq, h⟩ := zbe h
    simp only [aop, hq, Option.bind_some]
    exact .inl (pureCase _ h)
  case buildSlice t len ps =>
    obtain ⟨q, hq, h⟩ := zbe h
    simp only [aop, hq, Option.bind_some]
    unfold zdd at h ⊢
    split at h
    · split at h
      · split at h
        · rename_i hc
          split at h
          · rename_i cs hcs; cases h; exact .inr ⟨_, rfl, by simp [hc, hcs, hK, *]⟩
          · cases h
        · cases h
      · cases h
    · cases h
  case nilCheck x =>
    simp only [aop] at h ⊢
    split at h <;> cases h <;> exact .inl ⟨rfl, by simp [*]⟩
  case binOp op t x y yt =>
    obtain ⟨p, hp, h⟩ := zbe h
    obtain ⟨q, hq, h⟩ := zbe h
    simp only [aop, hp, hq, Option.bind_some]
    exact .inl (pureCase _ h)
  case unOp op t x =>
    obtain ⟨p, hp, h⟩ := zbe h
    simp only [aop, hp, Option.bind_some]
    exact .inl (pureCase _ h)
  case makeInterface t x =>
    simp only [aop] at h ⊢
    split at h
    · cases h
    · cases h
    · exact .inl (pureCase _ h)
  case makeFunc fn first cap =>
    cases fn with
    | func f =>
      simp only [aop] at h ⊢
      obtain ⟨p, hp, h⟩ := zbe h
      obtain ⟨q, hq, h⟩ := zbe h
      cases h
      exact .inl ⟨rfl, by simp [hp, hq]⟩
    | _ => simp [aop] at h
  case makeMap t r =>
    cases r with
    | none => simp only [aop] at h ⊢; cases h; exact .inr ⟨_, rfl, by rw [hK]⟩
    | some x =>
      simp only [aop] at h ⊢
      split at h
      · cases h; exact .inr ⟨_, rfl, by simp [hK, *]⟩
      · cases h
  case makeSlice t l c =>
    obtain ⟨p, hp, h⟩ := zbe h
    obtain ⟨q, hq, h⟩ := zbe h
    simp only [aop, hp, hq, Option.bind_some]
    unfold zea at h ⊢
    split at h
    · split at h
      · split at h
        · rename_i hc; cases h; exact .inr ⟨_, rfl, by simp only [*, if_true]⟩
        · cases h
      · cases h
    · cases h
  case fieldAddr t x i =>
    obtain ⟨p, hp, h⟩ := zbe h
    simp only [aop, hp, Option.bind_some]
    exact .inl (pureCase _ h)
  case field t x i =>
    obtain ⟨p, hp, h⟩ := zbe h
    simp only [aop, hp, Option.bind_some]
    exact .inl (pureCase _ h)
  case indexAddr t x i =>
    obtain ⟨p, hp, h⟩ := zbe h
    obtain ⟨q, hq, h⟩ := zbe h
    simp only [aop, hp, hq, Option.bind_some]
    exact .inl (pureCase _ h)
  case index t x i =>
    obtain ⟨p, hp, h⟩ := zbe h
    obtain ⟨q, hq, h⟩ := zbe h
    simp only [aop, hp, hq, Option.bind_some]
    exact .inl (pureCase _ h)
  case extract x i =>
    simp only [aop] at h ⊢
    split at h
    · exact .inl (pureCase _ h)
    · cases h
end
def zgn (ops : Array Oper) (i : Nat) : Option Tmp := (ops[i]?).bind (·.dst)
def zlc (ops : Array Oper) (env0 : EV) (val : Nat → AV) (D : Nat → Bool) : Nat → Nat → Option AV
  | 0, t => env0.look t
  | i + 1, t => if D i = true ∧ zgn ops i = some t ∧ t < env0.n then some (val i) else zlc ops env0 val D i t
section
variable {P : Program} {w0 : World} {base : Nat} {ι ι0 ι1 ι2 : Inj} {H H1 H2 : Heap} {w w00 w1 w2 : World} {ex : ExF}
theorem zkn (bef : Array Nat) (j : Nat) : ∀ (l : List Edge) (s : Nat), (l.foldl (fun s e => if Region.binds .any e then s ||| 2 ^ e.on ||| bef.getD e.on 0 else s) s).testBit j = true →
    s.testBit j = true ∨ ∃ e ∈ l, Region.binds .any e = true ∧ (j = e.on ∨ (bef.getD e.on 0).testBit j = true)
  | [], s, h => .inl h
  | e :: l, s, h => by
    simp only [List.foldl_cons] at h
    rcases zkn bef j l _ h with h | ⟨e', he', h1, h2⟩
    · split at h
      · rename_i hb
        rw [Nat.testBit_or, Nat.testBit_or, Nat.testBit_two_pow] at h
        simp only [Bool.or_eq_true, decide_eq_true_eq] at h
        rcases h with (h | h) | h
        · exact .inl h
        · exact .inr ⟨e, by simp, hb, .inl h.symm⟩
        · exact .inr ⟨e, by simp, hb, .inr h⟩
      · exact .inl h
    · exact .inr ⟨e', by simp [he'], h1, h2⟩
structure Order (ops : Array Oper) (bef : Array Nat) : Prop where
  via : ∀ i o j, ops[i]? = some o → (bef.getD i 0).testBit j = true → ∃ e ∈ o.after.toList, Region.binds .any e = true ∧ (j = e.on ∨ (bef.getD e.on 0).testBit j = true)
  back : ∀ i o, ops[i]? = some o → ∀ e ∈ o.after.toList, Region.binds .any e = true → e.on < i
theorem zlj : ∀ (l : List Oper) (i : Nat), zi1 i l = true → ∀ j o, l[j]? = some o → ∀ e ∈ o.after.toList, Region.binds .any e = true → e.on < i + j
  | [], i, _, j, o, ho, _, _, _ => by simp at ho
  | x :: l, i, h, j, o, ho, e, he, hb => by
    simp only [zi1, Bool.and_eq_true] at h
    cases j with
    | zero =>
      simp only [List.getElem?_cons_zero, Option.some.injEq] at ho
      subst ho
      have := Array.all_eq_true'.1 h.1 e (by simpa using he)
      simp [hb] at this
      simpa using this
    | succ j =>
      have := zlj l (i + 1) h.2 j o (by simpa using ho) e he hb
      omega
theorem yaix [E : Env] {ops : Array Oper} {bef : Array Nat} (h1 : zi1 0 ops.toList = true) (h2 : zzi ops bef = true) : Order ops bef where
  via := fun i o j ho hj => by
    have hi : i < ops.size := (Array.getElem?_eq_some_iff.1 ho).1
    simp only [zzi, Bool.and_eq_true] at h2
    have := List.all_eq_true.1 h2.2 i (List.mem_range.2 hi)
    simp only [ho, beq_iff_eq] at this
    rw [this] at hj
    rcases zkn bef j _ 0 hj with h | h
    · simp at h
    · exact h
  back := fun i o ho e he hb => by
    have := zlj ops.toList 0 h1 i o (by simpa using ho) e he hb
    omega
theorem Order.bits {ops : Array Oper} {bef : Array Nat} (r : Order ops bef) (hn : ∀ i, ops.size ≤ i → bef.getD i 0 = 0) : ∀ i j, (bef.getD i 0).testBit j = true → j < i := by
  intro i
  induction i using Nat.strongRecOn with
  | _ i ih =>
    intro j hj
    by_cases hi : i < ops.size
    · have ho : ops[i]? = some ops[i] := Array.getElem?_eq_getElem hi
      obtain ⟨e, he, hb, h⟩ := r.via i _ j ho hj
      have hlt := r.back i _ ho e he hb
      rcases h with rfl | h
      · exact hlt
      · exact Nat.lt_trans (ih _ hlt j h) hlt
    · rw [hn i (by omega)] at hj; simp at hj
theorem zes (b : Nat) : ∀ i, zdz b i = true ↔ ∀ j, j < i → b.testBit j = true
  | 0 => by simp [zdz]
  | i + 1 => by
    simp only [zdz, Bool.and_eq_true, zes b i]
    constructor
    · rintro ⟨h1, h2⟩ j hj
      by_cases e : j = i
      · subst e; exact h1
      · exact h2 j (by omega)
    · intro h; exact ⟨h i (by omega), fun j hj => h j (by omega)⟩
theorem zi9 (bef : Array Nat) : ∀ n, zc9 bef n ≤ n
  | 0 => by simp [zc9]
  | n + 1 => by simp only [zc9]; split; have := zi9 bef n; omega; omega
theorem ziw (bef : Array Nat) : ∀ n i, zc9 bef n ≤ i → i < n → zdz (bef.getD i 0) i = true
  | 0, i, _, h => by omega
  | n + 1, i, h1, h2 => by
    simp only [zc9] at h1
    split at h1
    · rename_i ha
      by_cases e : i = n
      · subst e; exact ha
      · exact ziw bef n i h1 (by omega)
    · omega
theorem zhl {ops : Array Oper} {listed : Array Bool} {i : Nat} (hs : listed.size = ops.size) : i ∈ Region.ready .any ops listed ↔ ∃ o, ops[i]? = some o ∧ listed.getD i false = false ∧ ∀ e ∈ o.after.toList, Region.binds .any e = true → listed.getD e.on false = true := by
  unfold Region.ready
  rw [List.mem_filter, List.mem_range]
  constructor
  · rintro ⟨hi, h⟩
    have ho : ops[i]? = some ops[i] := Array.getElem?_eq_getElem hi
    rw [ho] at h
    simp only [Bool.and_eq_true, Bool.not_eq_true', Option.map_some, Option.getD_some] at h
    refine ⟨_, ho, ?_, fun e he hb => ?_⟩
    · have : listed[i]? = some listed[i] := Array.getElem?_eq_getElem (by omega)
      simp only [Array.getD_eq_getD_getElem?, this, Option.getD_some] at h ⊢; exact h.1
    · have := Array.all_eq_true'.1 h.2 e (by simpa using he)
      simpa [hb] using this
  · rintro ⟨o, ho, h1, h2⟩
    have hi : i < ops.size := (Array.getElem?_eq_some_iff.1 ho).1
    refine ⟨hi, ?_⟩
    rw [ho]
    simp only [Bool.and_eq_true, Bool.not_eq_true', Option.map_some, Option.getD_some]
    refine ⟨?_, Array.all_eq_true'.2 fun e he => ?_⟩
    · have : listed[i]? = some listed[i] := Array.getElem?_eq_getElem (by omega)
      simp only [Array.getD_eq_getD_getElem?, this, Option.getD_some] at h1 ⊢; exact h1
    · cases hb : Region.binds .any e with
      | false => simp
      | true => simpa using h2 e (by simpa using he) hb
theorem zvy (ops : Array Oper) (fuel t : Nat) (listed : Array Bool) (hne : Region.ready .any ops listed ≠ []) :
    ∃ i t', i ∈ Region.ready .any ops listed ∧ Region.linearise.go .any ops (fuel + 1) t listed [] = i :: Region.linearise.go .any ops fuel t' (listed.setIfInBounds i true) [] := by
  have hlen : 0 < (Region.ready .any ops listed).length := List.length_pos_iff.2 hne
  have hlt : t % (Region.ready .any ops listed).length < (Region.ready .any ops listed).length := Nat.mod_lt _ hlen
  refine ⟨(Region.ready .any ops listed)[t % (Region.ready .any ops listed).length], t / (Region.ready .any ops listed).length, List.getElem_mem hlt, ?_⟩
  simp only [Region.linearise.go]
  change (match (Region.ready .any ops listed)[t % (Region.ready .any ops listed).length]? with
      | some i => Region.linearise.go .any ops fuel (t / (Region.ready .any ops listed).length) (listed.setIfInBounds i true) [i]
      | none => [].reverse) = _
  rw [List.getElem?_eq_getElem hlt]
  simp only
  rw [linearise_go_acc]
  rfl
theorem zrm [E : Env] {ops : Array Oper} {bef : Array Nat} (r : Order ops bef) {listed : Array Bool} (hs : listed.size = ops.size) {i : Nat} (hi : i < ops.size) (hl : listed.getD i false = false) : Region.ready .any ops listed ≠ [] := by
  have key : ∀ i, i < ops.size → listed.getD i false = false → ∃ j, j ∈ Region.ready .any ops listed := by
    intro i
    induction i using Nat.strongRecOn with
    | _ i ih =>
      intro hi hl
      have ho : ops[i]? = some ops[i] := Array.getElem?_eq_getElem hi
      by_cases hall : ∀ e ∈ ops[i].after.toList, Region.binds .any e = true → listed.getD e.on false = true
      · exact ⟨i, (zhl hs).2 ⟨_, ho, hl, hall⟩⟩
      · have : ∃ e ∈ ops[i].after.toList, Region.binds .any e = true ∧ listed.getD e.on false = false := by
          apply Classical.byContradiction
          intro hn
          apply hall
          intro e he hb
          cases hx : listed.getD e.on false with
          | true => rfl
          | false => exact absurd ⟨e, he, hb, hx⟩ hn
        obtain ⟨e, he, hb, hx⟩ := this
        have hlt := r.back i _ ho e he hb
        exact ih e.on hlt (by omega) hx
  obtain ⟨j, hj⟩ := key i hi hl
  exact List.ne_nil_of_mem hj
theorem zd1 (listed : Array Bool) (i j : Nat) (hi : i < listed.size) : (listed.setIfInBounds i true).getD j false = if j = i then true else listed.getD j false := by
  simp only [Array.getD_eq_getD_getElem?]
  by_cases e : j = i
  · subst e; rw [if_pos rfl, Array.getElem?_setIfInBounds_self_of_lt hi]; rfl
  · rw [if_neg e, Array.getElem?_setIfInBounds_ne (fun h => e h.symm)]
theorem yai8 [E : Env] {ops : Array Oper} {bef : Array Nat} (r : Order ops bef) (hn : ∀ i, ops.size ≤ i → bef.getD i 0 = 0) : ∀ (k j t : Nat) (listed : Array Bool), listed.size = ops.size → j + k = ops.size → (∀ i, i < ops.size → listed.getD i false = decide (i < j)) →
    (∀ i, j ≤ i → i < ops.size → zdz (bef.getD i 0) i = true) → Region.linearise.go .any ops k t listed [] = List.range' j k
  | 0, j, t, listed, _, _, _, _ => rfl
  | k + 1, j, t, listed, hs, hk, hl, ha => by
    have hj : j < ops.size := by omega
    obtain ⟨i, t', hi, hgo⟩ := zvy ops k t listed (zrm r hs hj (by rw [hl j hj]; simp))
    obtain ⟨o, ho, h1, h2⟩ := (zhl hs).1 hi
    have hio : i < ops.size := (Array.getElem?_eq_some_iff.1 ho).1
    rw [hl i hio] at h1
    have hge : j ≤ i := by simpa using h1
    have hij : i = j := by
      apply Classical.byContradiction
      intro hne
      have hbit := (zes _ i).1 (ha i hge hio) j (by omega)
      obtain ⟨e, he, hb, h⟩ := r.via i o j ho hbit
      have hlisted := h2 e he hb
      have hlt := r.back i o ho e he hb
      rw [hl e.on (by omega)] at hlisted
      have hej : e.on < j := by simpa using hlisted
      rcases h with h | h
      · omega
      · have := r.bits hn _ _ h; omega
    subst hij
    rw [hgo, List.range'_succ]
    congr 1
    exact yai8 r hn k (i + 1) t' _ (by simpa using hs) (by omega) (fun q hq => by
      rw [zd1 _ _ _ (by omega)]
      by_cases e : q = i
      · subst e; simp
      · rw [if_neg e, hl q hq]
        have : (q < i) ↔ (q < i + 1) := by omega
        simp [this]) (fun q h1 h2 => ha q (by omega) h2)
end
mutual
theorem zhw {p : Nat → Bool} {ι ι' : Inj} (h : ∀ b, p b = true → ι' b = ι b) : ∀ v : AV, v.all p = true → v.conc ι' = v.conc ι
  | .bool _, _ | .int _ _, _ | .str _, _ | .nilp, _ | .nilf, _ | .nili, _ | .map none, _ => rfl
  | .ptr b _, k => by simp only [AV.all] at k; simp [AV.conc, h b k]
  | .sl b _ _ _, k => by simp only [AV.all] at k; simp [AV.conc, h b k]
  | .asl b _ _ _ _, k => by simp only [AV.all] at k; simp [AV.conc, h b k]
  | .map (some b), k => by simp only [AV.all] at k; simp [AV.conc, h b k]
  | .yieldf b, k => by simp only [AV.all] at k; simp [AV.conc, h b k]
  | .rptr _ _, _ | .rsl _ _ _ _, _ => rfl
  | .func _ a b, k => by simp only [AV.all, Bool.and_eq_true] at k; simp only [AV.conc, zgt h a k.1, zgt h b k.2]
  | .iface _ v, k => by simp only [AV.all] at k; simp only [AV.conc, zhw h v k]
  | .agg l, k | .tup l, k => by simp only [AV.all] at k; simp only [AV.conc, zgt h l k]
theorem zgt {p : Nat → Bool} {ι ι' : Inj} (h : ∀ b, p b = true → ι' b = ι b) : ∀ l : List AV, AV.allL p l = true → AV.concL ι' l = AV.concL ι l
  | [], _ => rfl
  | v :: vs, k => by simp only [AV.allL, Bool.and_eq_true] at k; simp only [AV.concL, zhw h v k.1, zgt h vs k.2]
end
mutual
theorem all_and {p q : Nat → Bool} : ∀ v : AV, v.all p = true → v.all q = true → v.all (fun b => p b && q b) = true
  | .bool _, _, _ | .int _ _, _, _ | .str _, _, _ | .nilp, _, _ | .nilf, _, _ | .nili, _, _ | .map none, _, _ | .rptr _ _, _, _ | .rsl _ _ _ _, _, _ => rfl
  | .ptr b _, h, k | .sl b _ _ _, h, k | .asl b _ _ _ _, h, k | .map (some b), h, k | .yieldf b, h, k => by simp only [AV.all] at h k ⊢; simp [h, k]
  | .func _ a b, h, k => by simp only [AV.all, Bool.and_eq_true] at h k ⊢; exact ⟨zhu a h.1 k.1, zhu b h.2 k.2⟩
  | .iface _ v, h, k => by simp only [AV.all] at h k ⊢; exact all_and v h k
  | .agg l, h, k | .tup l, h, k => by simp only [AV.all] at h k ⊢; exact zhu l h k
theorem zhu {p q : Nat → Bool} : ∀ l : List AV, AV.allL p l = true → AV.allL q l = true → AV.allL (fun b => p b && q b) l = true
  | [], _, _ => rfl
  | v :: vs, h, k => by simp only [AV.allL, Bool.and_eq_true] at h k ⊢; exact ⟨all_and v h.1 k.1, zhu vs h.2 k.2⟩
end
mutual
theorem all_lt {w0 : World} {base n : Nat} : ∀ v : AV, v.OK w0 base n → v.all (fun b => decide (b < n)) = true
  | .bool _, _ | .int _ _, _ | .str _, _ | .nilp, _ | .nilf, _ | .nili, _ | .map none, _ | .rptr _ _, _ | .rsl _ _ _ _, _ => rfl
  | .ptr b _, k | .sl b _ _ _, k | .asl b _ _ _ _, k | .map (some b), k | .yieldf b, k => by simp only [AV.OK] at k; simp [AV.all, k]
  | .func _ a b, k => by simp only [AV.OK] at k; simp only [AV.all, Bool.and_eq_true]; exact ⟨zkt a k.1, zkt b k.2⟩
  | .iface _ v, k => by simp only [AV.OK] at k; simp only [AV.all]; exact all_lt v k
  | .agg l, k | .tup l, k => by simp only [AV.OK] at k; simp only [AV.all]; exact zkt l k
theorem zkt {w0 : World} {base n : Nat} : ∀ l : List AV, AV.OKL w0 base n l → AV.allL (fun b => decide (b < n)) l = true
  | [], _ => rfl
  | v :: vs, k => by simp only [AV.OKL] at k; simp only [AV.allL, Bool.and_eq_true]; exact ⟨all_lt v k.1, zkt vs k.2⟩
end
theorem zw4 (p : Nat → Bool) : ∀ l : List AV, AV.allL p l = true ↔ ∀ v ∈ l, v.all p = true
  | [] => by simp [AV.allL]
  | v :: vs => by simp [AV.allL, zw4 p vs]
section
variable {P : Program} {w0 : World} {base : Nat} {ι ι1 ι2 : Inj} {H H1 H2 : Heap} {w w1 w2 : World} {ex : ExF}
theorem BlkRel.all [E : Env] {p : Nat → Bool} (h : ∀ b, p b = true → ι1 b = ι b) {x : Blk} (k : x.all p = true) {cap : Nat} {o : Option Obj} (r : BlkRel P ι cap o x) : BlkRel P ι1 cap o x := by
  cases x with
  | cells t cs =>
    obtain ⟨c, ho, ⟨rest, hr⟩, hs⟩ := r
    refine ⟨c, ho, ⟨rest, ?_⟩, hs⟩
    simp only [Blk.all] at k
    rw [hr, ← zaz, ← zaz, zgt h cs k]
  | map es c =>
    simp only [BlkRel, zal] at r ⊢
    simp only [Blk.all, List.all_eq_true, Bool.and_eq_true] at k
    rw [r]
    congr 2
    refine congrArg List.toArray (List.map_congr_left fun e he => ?_)
    rw [zhw h _ (k e he).1, zhw h _ (k e he).2]
  | iter s p => exact r
  | loop st pend fn tmps params assign body d =>
    simp only [Blk.all, Bool.and_eq_true] at k
    obtain ⟨tv, q1, q2⟩ := r
    exact ⟨tv, ⟨q1.1, fun t v hv => by rw [q1.2 t v hv, zhw h v ((zw4 p _).1 k.1 v (zga hv))]⟩, by rw [q2, h d k.2]⟩
  | dfr => exact r
theorem BlkOK.all_lt [E : Env] {n : Nat} {x : Blk} (k : BlkOK w0 base n x) : x.all (fun b => decide (b < n)) = true := by
  cases x with
  | cells t cs => simp only [Blk.all]; exact zkt cs ((zar ..).2 k)
  | map es c => simp only [Blk.all, List.all_eq_true, Bool.and_eq_true]; exact fun e he => ⟨Go.Ab.all_lt _ (k e he).1, Go.Ab.all_lt _ (k e he).2⟩
  | loop st pend fn tmps params assign body d => simp only [Blk.all, Bool.and_eq_true]; exact ⟨zkt _ ((zar ..).2 k.1), by simpa using k.2⟩
  | _ => rfl
theorem Blk.all_and [E : Env] {p q : Nat → Bool} {x : Blk} (h : x.all p = true) (k : x.all q = true) : x.all (fun b => p b && q b) = true := by
  cases x with
  | cells t cs => simp only [Blk.all] at h k ⊢; exact zhu cs h k
  | map es c =>
    simp only [Blk.all, List.all_eq_true, Bool.and_eq_true] at h k ⊢
    exact fun e he => ⟨Go.Ab.all_and _ (h e he).1 (k e he).1, Go.Ab.all_and _ (h e he).2 (k e he).2⟩
  | loop st pend fn tmps params assign body d => simp only [Blk.all, Bool.and_eq_true] at h k ⊢; exact ⟨zhu _ h.1 k.1, h.2, k.2⟩
  | _ => rfl
variable {ops : Array Oper} {bef : Array Nat} {val : Nat → AV}
theorem yaf7 (D : Nat → Bool) (env0 : EV) (t i : Nat) : ∀ k, i ≤ k → (∀ j, i ≤ j → j < k → D j = true → zgn ops j ≠ some t) → zlc ops env0 val D k t = zlc ops env0 val D i t := by
  intro k hk
  induction hk with
  | refl => exact fun _ => rfl
  | step hk ih =>
    rename_i k
    intro hw
    rw [zlc, if_neg (fun q => hw k hk (by omega) q.1 q.2.1), ih (fun j h1 h2 => hw j h1 (by omega))]
theorem zkp (env0 : EV) (t : Nat) (D D' : Nat → Bool) : ∀ k, (∀ j, j < k → zgn ops j = some t → D j = D' j) → zlc ops env0 val D k t = zlc ops env0 val D' k t
  | 0, _ => rfl
  | k + 1, hw => by
    simp only [zlc]
    rw [zkp env0 t D D' k (fun j hj => hw j (by omega))]
    by_cases hd : zgn ops k = some t
    · rw [hw k (by omega) hd]
    · simp [hd]
theorem zld (env0 : EV) (D : Nat → Bool) (t : Nat) : ∀ (k : Nat) (v : AV), zlc ops env0 val D k t = some v → (v ∈ vals env0.s) ∨ ∃ j, j < k ∧ D j = true ∧ v = val j
  | 0, v, hv => .inl (zga hv)
  | k + 1, v, hv => by
    simp only [zlc] at hv
    split at hv
    · rename_i hc; cases hv; exact .inr ⟨k, by omega, hc.1, rfl⟩
    · rcases zld env0 D t k v hv with h | ⟨j, h1, h2⟩
      · exact .inl h
      · exact .inr ⟨j, by omega, h2⟩
theorem zkg (hr : ze5 ops bef = true) {i j : Nat} {x y : Oper} (hi : ops[i]? = some x) (hj : ops[j]? = some y) (hne : i ≠ j) (h1 : (bef.getD i 0).testBit j = false) (h2 : (bef.getD j 0).testBit i = false) :
    ∀ d, x.dst = some d → d ∉ needs ops y ∧ y.dst ≠ some d := by
  intro d hd
  have hi' : i < ops.size := (Array.getElem?_eq_some_iff.1 hi).1
  have hj' : j < ops.size := (Array.getElem?_eq_some_iff.1 hj).1
  have := List.all_eq_true.1 (List.all_eq_true.1 hr i (List.mem_range.2 hi')) j (List.mem_range.2 hj')
  simp only [hi, hj, h1, h2, hd, Bool.or_false, Bool.or_eq_true, beq_iff_eq, Bool.and_eq_true, Bool.not_eq_true', bne_iff_ne, ne_eq] at this
  rcases this with h | h
  · exact absurd h hne
  · refine ⟨fun hm => ?_, h.2⟩
    have := h.1
    simp [List.contains_iff_mem, hm] at this
end
theorem yagd {e : EV} {d t : Nat} {v : AV} : (e.set d v).look t = if d = t ∧ t < e.n then some v else e.look t := by
  unfold EV.set EV.look
  split
  · rename_i hd
    simp only [zoq]
    by_cases e1 : t = d
    · subst e1; rw [if_pos rfl, if_pos ⟨rfl, hd⟩]
    · rw [if_neg e1, if_neg (fun q => e1 q.1.symm)]
  · rename_i hd
    rw [if_neg]; rintro ⟨rfl, h⟩; exact hd h
theorem yazx {e : EV} {d : Nat} {v : AV} : (e.set d v).n = e.n := by unfold EV.set; split <;> rfl
def cnt (D : Nat → Bool) : Nat → Nat
  | 0 => 0
  | n + 1 => cnt D n + (if D n then 0 else 1)
theorem zxp {D D' : Nat → Bool} : ∀ n, (∀ i, i < n → D i = D' i) → cnt D n = cnt D' n
  | 0, _ => rfl
  | n + 1, h => by simp only [cnt]; rw [zxp n (fun i hi => h i (by omega)), h n (by omega)]
theorem zqq [E : Env] {D : Nat → Bool} {i : Nat} (hi : D i = false) : ∀ n, i < n → cnt D n = cnt (fun j => if j = i then true else D j) n + 1
  | 0, h => by omega
  | n + 1, h => by
    simp only [cnt]
    by_cases e : n = i
    · subst e
      rw [zxp (D := D) (D' := fun j => if j = n then true else D j) n (fun j hj => by simp [show j ≠ n by omega])]
      simp [hi]
    · rw [zqq hi n (by omega)]
      simp [e]; omega
theorem yacf (m : Nat) : ∀ n, m ≤ n → cnt (fun i => decide (i < m)) n = n - m
  | 0, h => by simp [cnt]
  | n + 1, h => by
    simp only [cnt]
    by_cases e : m ≤ n
    · rw [yacf m n e]; simp [show ¬ n < m by omega]; omega
    · have : m = n + 1 := by omega
      subst this
      have : ∀ k, k ≤ n + 1 → cnt (fun i => decide (i < n + 1)) k = 0 := fun k => by
        induction k with
        | zero => intro _; rfl
        | succ k ih => intro hk; simp only [cnt]; rw [ih (by omega)]; simp [show k < n + 1 by omega]
      rw [this n (by omega)]; simp
theorem zvk [E : Env] {D : Nat → Bool} {i : Nat} (hi : D i = false) : ∀ n, i < n → 0 < cnt D n := fun n h => by rw [zqq hi n h]; omega
section
variable {P : Program} {w0 : World} {base : Nat} {ι ι0 ι1 ι2 : Inj} {H H1 H2 : Heap} {w w00 w1 w2 : World} {ex : ExF}
variable {ops : Array Oper} {bef : Array Nat}
theorem yatf (fuel t : Nat) (listed : Array Bool) (h : Region.ready .any ops listed = []) : Region.linearise.go .any ops fuel t listed [] = [] := by
  cases fuel with
  | zero => rfl
  | succ fuel =>
    simp only [Region.linearise.go]
    change (match (Region.ready .any ops listed)[t % (Region.ready .any ops listed).length]? with
      | some i => Region.linearise.go .any ops fuel (t / (Region.ready .any ops listed).length) (listed.setIfInBounds i true) [i]
      | none => [].reverse) = _
    rw [h]; rfl
theorem zoe [E : Env] (r : Order ops bef) (hbits : ∀ i j, (bef.getD i 0).testBit j = true → j < i) : ∀ (k j fuel t : Nat) (listed : Array Bool), listed.size = ops.size → j + k = ops.size → k ≤ fuel → (∀ i, i < ops.size → listed.getD i false = decide (i < j)) →
    (∀ i, j ≤ i → i < ops.size → zdz (bef.getD i 0) i = true) → Region.linearise.go .any ops fuel t listed [] = List.range' j k
  | 0, j, fuel, t, listed, hs, hk, hf, hl, _ => by
    refine yatf fuel t listed (List.eq_nil_iff_forall_not_mem.2 fun i hi => ?_)
    obtain ⟨o, ho, h1, _⟩ := (zhl hs).1 hi
    have hio : i < ops.size := (Array.getElem?_eq_some_iff.1 ho).1
    rw [hl i hio] at h1
    simp at h1; omega
  | k + 1, j, 0, t, listed, hs, hk, hf, hl, ha => by omega
  | k + 1, j, fuel + 1, t, listed, hs, hk, hf, hl, ha => by
    have hj : j < ops.size := by omega
    obtain ⟨i, t', hi, hgo⟩ := zvy ops fuel t listed (zrm r hs hj (by rw [hl j hj]; simp))
    obtain ⟨o, ho, h1, h2⟩ := (zhl hs).1 hi
    have hio : i < ops.size := (Array.getElem?_eq_some_iff.1 ho).1
    rw [hl i hio] at h1
    have hge : j ≤ i := by simpa using h1
    have hij : i = j := by
      apply Classical.byContradiction
      intro hne
      have hbit := (zes _ i).1 (ha i hge hio) j (by omega)
      obtain ⟨e, he, hb, h⟩ := r.via i o j ho hbit
      have hlisted := h2 e he hb
      have hlt := r.back i o ho e he hb
      rw [hl e.on (by omega)] at hlisted
      have hej : e.on < j := by simpa using hlisted
      rcases h with h | h
      · omega
      · have := hbits _ _ h; omega
    subst hij
    rw [hgo, List.range'_succ]
    congr 1
    exact zoe r hbits k (i + 1) fuel t' _ (by simpa using hs) (by omega) (by omega) (fun q hq => by
      rw [zd1 _ _ _ (by omega)]
      by_cases e : q = i
      · subst e; simp
      · rw [if_neg e, hl q hq]
        have : (q < i) ↔ (q < i + 1) := by omega
        simp [this]) (fun q h1 h2 => ha q (by omega) h2)
end
end Go.Ab
