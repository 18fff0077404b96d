/- The abstract interpreter is sound, 12: regions whose order is open. Conditions: none. -/
import Derived.Test.YtlbkcdfllglddaaAb14
import Derived.Orders
set_option linter.unusedSimpArgs false
set_option linter.unusedVariables false
namespace Go.Ab
open Go Go.RowKit

/-- one quiet operation, as the interpreter takes it -/
def QS [E : Env] (P : Program) (ex : ExF) (ops : Array Oper) (bef : Array Nat) (j : Nat) (o : Oper) (env : List AV) (H : Heap) (kept : List (Nat × Nat × Nat)) (v : AV) (H' : Heap) (kept' : List (Nat × Nat × Nat)) : Prop :=
  (Region.wanted o (yieldedA ops env) = false ∧ v = undefA ∧ H' = H ∧ kept' = kept) ∨
  (Region.wanted o (yieldedA ops env) = true ∧ heapFree o.op = true ∧ opA P ex H.next env H o = some (v, H') ∧ v.all (visA (bef.getD j 0) kept) = true ∧ newOk (visA (bef.getD j 0) kept) H H' = true ∧ kept' = (if H'.next = H.next then kept else (j, H.next, H'.next - H.next) :: kept)) ∨
  (Region.wanted o (yieldedA ops env) = true ∧ ∃ H1, opA P ex H.next env (viewA H (bef.getD j 0) kept) o = some (v, H1) ∧ v.all (visA (bef.getD j 0) kept) = true ∧
    ((H' = H ∧ kept' = kept ∧ (onlyReads o.op = true ∨ v.rf = true)) ∨ (newOk (visA (bef.getD j 0) kept) H H1 = true ∧ H' = growH H H1 ∧ kept' = (j, H.next, H1.next - H.next) :: kept)))

section
variable {P : Program} {w0 : World} {base lo : Nat} {ι ι1 ι2 : Inj} {H H1 H2 : Heap} {w w1 w2 : World} {ex : ExF}

theorem runQuiet_trace [E : Env] (ops : Array Oper) (bef : Array Nat) : ∀ (l : List Oper) (i : Nat) (env : List AV) (H : Heap) (kept : List (Nat × Nat × Nat)) (env' : List AV) (H' : Heap), (∀ j o, l[j]? = some o → ops[i + j]? = some o) →
    runQuiet P ex ops bef i l env H kept = some (env', H') →
    ∃ (e : Nat → List AV) (h : Nat → Heap) (kp : Nat → List (Nat × Nat × Nat)) (val : Nat → AV), e i = env ∧ h i = H ∧ kp i = kept ∧ e (i + l.length) = env' ∧ h (i + l.length) = H' ∧
      ∀ j, i ≤ j → j < i + l.length → ∃ o, ops[j]? = some o ∧ QS P ex ops bef j o (e j) (h j) (kp j) (val j) (h (j + 1)) (kp (j + 1)) ∧ e (j + 1) = putE (e j) o.dst (val j)
  | [], i, env, H, kept, env', H', _, h => by
    simp only [runQuiet] at h; cases h
    exact ⟨fun _ => env, fun _ => H, fun _ => kept, fun _ => undefA, rfl, rfl, rfl, rfl, rfl, fun j h1 h2 => absurd h2 (by simp; omega)⟩
  | o :: l, i, env, H, kept, env', H', hl, h => by
    have ho : ops[i]? = some o := by have := hl 0 o rfl; simpa using this
    have hl' : ∀ j o', l[j]? = some o' → ops[i + 1 + j]? = some o' := fun j o' hj => by have := hl (j + 1) o' (by simpa using hj); simpa [Nat.add_assoc, Nat.add_comm 1 j] using this
    have build : ∀ (v : AV) (H1 : Heap) (k1 : List (Nat × Nat × Nat)), QS P ex ops bef i o env H kept v H1 k1 → runQuiet P ex ops bef (i + 1) l (putE env o.dst v) H1 k1 = some (env', H') →
        ∃ (e : Nat → List AV) (h : Nat → Heap) (kp : Nat → List (Nat × Nat × Nat)) (val : Nat → AV), e i = env ∧ h i = H ∧ kp i = kept ∧ e (i + (o :: l).length) = env' ∧ h (i + (o :: l).length) = H' ∧
          ∀ j, i ≤ j → j < i + (o :: l).length → ∃ o, ops[j]? = some o ∧ QS P ex ops bef j o (e j) (h j) (kp j) (val j) (h (j + 1)) (kp (j + 1)) ∧ e (j + 1) = putE (e j) o.dst (val j) := by
      intro v H1 k1 hq hr
      obtain ⟨e, h, kp, val, e1, e2, e3, e4, e5, e6⟩ := runQuiet_trace ops bef l (i + 1) _ H1 k1 env' H' hl' hr
      refine ⟨fun j => if j = i then env else e j, fun j => if j = i then H else h j, fun j => if j = i then kept else kp j, fun j => if j = i then v else val j, by simp, by simp, by simp, ?_, ?_, fun j h1 h2 => ?_⟩
      · dsimp only; rw [if_neg (by simp), ← e4]; congr 1; simp; omega
      · dsimp only; rw [if_neg (by simp), ← e5]; congr 1; simp; omega
      · by_cases hj : j = i
        · subst hj
          refine ⟨o, ho, ?_, ?_⟩
          · dsimp only; rw [if_pos rfl, if_pos rfl, if_pos rfl, if_pos rfl, if_neg (by omega), if_neg (by omega), e2, e3]; exact hq
          · dsimp only; rw [if_pos rfl, if_pos rfl, if_neg (by omega), e1]
        · obtain ⟨o', h3, h4, h5⟩ := e6 j (by omega) (by simp at h2; omega)
          refine ⟨o', h3, ?_, ?_⟩
          · dsimp only; rw [if_neg hj, if_neg hj, if_neg hj, if_neg hj, if_neg (by omega), if_neg (by omega)]; exact h4
          · dsimp only; rw [if_neg hj, if_neg hj, if_neg (by omega)]; exact h5
    simp only [runQuiet] at h
    split at h
    · rename_i hw
      split at h
      · rename_i hf
        split at h
        · rename_i v H1 hop
          split at h
          · rename_i hc
            simp only [Bool.and_eq_true] at hc
            exact build v H1 _ (.inr (.inl ⟨hw, hf, hop, hc.1, hc.2, rfl⟩)) h
          · cases h
        · cases h
      · split at h
        · rename_i v H1 hop
          split at h
          · cases h
          · rename_i hv
            have hv' : v.all (visA (bef.getD i 0) kept) = true := by simpa using hv
            split at h
            · rename_i hc
              exact build v H kept (.inr (.inr ⟨hw, H1, hop, hv', .inl ⟨rfl, rfl, by simpa using hc⟩⟩)) h
            · split at h
              · cases h
              · rename_i hn
                exact build v _ _ (.inr (.inr ⟨hw, H1, hop, hv', .inr ⟨by simpa using hn, rfl, rfl⟩⟩)) h
        · cases h
    · rename_i hw
      exact build undefA H kept (.inl ⟨by simpa using hw, rfl, rfl, rfl⟩) h

/-- operations that are free of the heap -/
theorem heapFree_indep [E : Env] {env : List AV} {o : Oper} {v : AV} {H' : Heap} (hf : heapFree o.op = true) (h : opA P ex lo env H o = some (v, H')) (K : Heap) (hK : K.next = H.next) :
    (H' = H ∧ opA P ex lo env K o = some (v, K)) ∨ ∃ x, H' = H.push x ∧ opA P ex lo env K o = some (v, K.push x) := by
  have hna : opA P ex lo env H o = aop P lo env H o ∧ opA P ex lo env K o = aop P lo env K o := by
    constructor <;> (unfold opA; split <;> first | rfl | (rename_i hop; rw [hop] at hf; simp [heapFree] at hf))
  rw [hna.1] at h
  rw [hna.2]
  obtain ⟨dst, op, type, pos, after, guard⟩ := o
  have pureCase : ∀ (r : Option AV), r.map (fun v => (v, H)) = some (v, H') → (H' = H ∧ r.map (fun v => (v, K)) = some (v, K)) := fun r hr => by
    obtain ⟨y, hy, e⟩ := map1 hr; cases e; exact ⟨rfl, by simp [hy]⟩
  cases op <;> simp [heapFree] at hf
  case move x => exact .inl (pureCase _ h)
  case assign x => exact .inl (pureCase _ h)
  case pick c a b =>
    simp only [aop] at h ⊢
    split at h
    · exact .inl (pureCase _ h)
    · cases h
  case alloc t =>
    simp only [aop] at h ⊢
    cases hz : zeroA P t with
    | none => simp [hz] at h
    | some z =>
      cases hs : sizeA P t with
      | none => simp [hz, hs] at h
      | some sz =>
        simp only [hz, hs] at h ⊢
        split at h
        · rename_i hc; cases h; exact .inr ⟨_, rfl, by rw [if_pos hc, hK]⟩
        · cases h
  case box t x =>
    simp only [aop] at h ⊢
    cases hz : evalO env x with
    | none => simp [hz] at h
    | some z =>
      cases hs : sizeA P t with
      | none => simp [hz, hs] at h
      | some sz =>
        simp only [hz, hs] at h ⊢
        split at h
        · rename_i hc; cases h; exact .inr ⟨_, rfl, by rw [if_pos hc, hK]⟩
        · cases h
  case build t ps =>
    obtain ⟨q, hq, h⟩ := bind1 h
    simp only [aop, hq, Option.bind_some]
    exact .inl (pureCase _ h)
  case buildSlice t len ps =>
    obtain ⟨q, hq, h⟩ := bind1 h
    simp only [aop, hq, Option.bind_some]
    unfold buildSliceA at h ⊢
    split at h
    · split at h
      · split at h
        · rename_i hc
          split at h
          · rename_i cs hcs; cases h; exact .inr ⟨_, rfl, by simp [hc, hcs, hK, *]⟩
          · cases h
        · cases h
      · cases h
    · cases h
  case nilCheck x =>
    simp only [aop] at h ⊢
    split at h <;> cases h <;> exact .inl ⟨rfl, by simp [*]⟩
  case binOp op t x y yt =>
    obtain ⟨p, hp, h⟩ := bind1 h
    obtain ⟨q, hq, h⟩ := bind1 h
    simp only [aop, hp, hq, Option.bind_some]
    exact .inl (pureCase _ h)
  case unOp op t x =>
    obtain ⟨p, hp, h⟩ := bind1 h
    simp only [aop, hp, Option.bind_some]
    exact .inl (pureCase _ h)
  case makeInterface t x =>
    simp only [aop] at h ⊢
    split at h
    · cases h
    · cases h
    · exact .inl (pureCase _ h)
  case makeFunc fn first cap =>
    cases fn with
    | func f =>
      simp only [aop] at h ⊢
      obtain ⟨p, hp, h⟩ := bind1 h
      obtain ⟨q, hq, h⟩ := bind1 h
      cases h
      exact .inl ⟨rfl, by simp [hp, hq]⟩
    | _ => simp [aop] at h
  case makeMap t r =>
    cases r with
    | none => simp only [aop] at h ⊢; cases h; exact .inr ⟨_, rfl, by rw [hK]⟩
    | some x =>
      simp only [aop] at h ⊢
      split at h
      · cases h; exact .inr ⟨_, rfl, by simp [hK, *]⟩
      · cases h
  case makeSlice t l c =>
    obtain ⟨p, hp, h⟩ := bind1 h
    obtain ⟨q, hq, h⟩ := bind1 h
    simp only [aop, hp, hq, Option.bind_some]
    unfold makeSliceA at h ⊢
    split at h
    · split at h
      · split at h
        · rename_i hc; cases h; exact .inr ⟨_, rfl, by simp only [*, if_true]⟩
        · cases h
      · cases h
    · cases h
  case fieldAddr t x i =>
    obtain ⟨p, hp, h⟩ := bind1 h
    simp only [aop, hp, Option.bind_some]
    exact .inl (pureCase _ h)
  case field t x i =>
    obtain ⟨p, hp, h⟩ := bind1 h
    simp only [aop, hp, Option.bind_some]
    exact .inl (pureCase _ h)
  case indexAddr t x i =>
    obtain ⟨p, hp, h⟩ := bind1 h
    obtain ⟨q, hq, h⟩ := bind1 h
    simp only [aop, hp, hq, Option.bind_some]
    exact .inl (pureCase _ h)
  case index t x i =>
    obtain ⟨p, hp, h⟩ := bind1 h
    obtain ⟨q, hq, h⟩ := bind1 h
    simp only [aop, hp, hq, Option.bind_some]
    exact .inl (pureCase _ h)
  case extract x i =>
    simp only [aop] at h ⊢
    split at h
    · exact .inl (pureCase _ h)
    · cases h

theorem copyR_get (K : Heap) (b : Nat) : ∀ (n a : Nat) (H : Heap), (copyR H K a n).get b = if a ≤ b ∧ b < a + n then K.get b else H.get b
  | 0, a, H => by simp only [copyR]; rw [if_neg (by omega)]
  | n + 1, a, H => by
    simp only [copyR]
    rw [copyR_get K b n (a + 1) (H.setO a (K.get a)), Heap.get_setO]
    by_cases e : b = a
    · subst e
      rw [if_neg (by omega), if_pos rfl, if_pos (by omega)]
    · by_cases h : a + 1 ≤ b ∧ b < a + 1 + n
      · rw [if_pos h, if_pos (by omega)]
      · rw [if_neg h, if_neg e, if_neg (by omega)]
theorem growH_get [E : Env] (H K : Heap) (b : Nat) : (growH H K).get b = if H.next ≤ b ∧ b < H.next + (K.next - H.next) then K.get b else H.get b := copyR_get K b _ _ H
theorem hideR_get (b : Nat) : ∀ (n a : Nat) (H : Heap), (hideR H a n).get b = if a ≤ b ∧ b < a + n then none else H.get b
  | 0, a, H => by simp only [hideR]; rw [if_neg (by omega)]
  | n + 1, a, H => by
    simp only [hideR]
    rw [hideR_get b n (a + 1) (H.kill a), Heap.get_kill]
    by_cases e : b = a
    · subst e
      rw [if_neg (by omega), if_pos rfl, if_pos (by omega)]
    · by_cases h : a + 1 ≤ b ∧ b < a + 1 + n
      · rw [if_pos h, if_pos (by omega)]
      · rw [if_neg h, if_neg e, if_neg (by omega)]
theorem hideR_next : ∀ (n a : Nat) (H : Heap), (hideR H a n).next = H.next
  | 0, _, _ => rfl
  | n + 1, a, H => by simp only [hideR]; rw [hideR_next]; rfl
theorem viewA_next [E : Env] (bef : Nat) : ∀ (kept : List (Nat × Nat × Nat)) (H : Heap), (viewA H bef kept).next = H.next
  | [], _ => rfl
  | (j, a, n) :: rest, H => by
    simp only [viewA]
    rw [viewA_next bef rest]
    split
    · rfl
    · exact hideR_next _ _ _
theorem viewA_get [E : Env] (bef : Nat) : ∀ (kept : List (Nat × Nat × Nat)) (H : Heap) (b : Nat) (x : Blk), (viewA H bef kept).get b = some x → H.get b = some x ∧ ∀ q ∈ kept, bef.testBit q.1 = false → ¬ (q.2.1 ≤ b ∧ b < q.2.1 + q.2.2)
  | [], _, _, _, h => ⟨h, by simp⟩
  | (j, a, n) :: rest, H, b, x, h => by
    simp only [viewA] at h
    obtain ⟨h1, h2⟩ := viewA_get bef rest _ b x h
    split at h1
    · rename_i hj
      refine ⟨h1, fun q hq hqb => ?_⟩
      rcases List.mem_cons.1 hq with rfl | hq
      · simp [hj] at hqb
      · exact h2 q hq hqb
    · rw [hideR_get] at h1
      split at h1
      · cases h1
      · rename_i hn
        refine ⟨h1, fun q hq hqb => ?_⟩
        rcases List.mem_cons.1 hq with rfl | hq
        · exact hn
        · exact h2 q hq hqb

theorem onlyReads_heap [E : Env] {env : List AV} {o : Oper} {v : AV} {H' : Heap} (hf : onlyReads o.op = true) (h : opA P ex lo env H o = some (v, H')) : H' = H := by
  have hna : opA P ex lo env H o = aop P lo env H o := by
    unfold opA; split <;> first | rfl | (rename_i hop; rw [hop] at hf; simp [onlyReads] at hf)
  rw [hna] at h
  obtain ⟨dst, op, type, pos, after, guard⟩ := o
  cases op <;> simp [onlyReads] at hf
  case load t a =>
    obtain ⟨x, hx, h⟩ := bind1 h
    obtain ⟨y, hy, e⟩ := map1 h; cases e; rfl
  case slice t x l hi mx =>
    simp only [aop] at h
    split at h
    · cases h
    · obtain ⟨q, hq, h⟩ := bind1 h
      split at h
      · cases h
      · cases h
      · obtain ⟨y, hy, e⟩ := map1 h; cases e; rfl
  case lookup t x i ok =>
    obtain ⟨p, hp, h⟩ := bind1 h
    obtain ⟨q, hq, h⟩ := bind1 h
    obtain ⟨y, hy, e⟩ := map1 h; cases e; rfl
end
end Go.Ab
