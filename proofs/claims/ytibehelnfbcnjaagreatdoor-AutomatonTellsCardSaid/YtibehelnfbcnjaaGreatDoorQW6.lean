/- What the law's proof leans on, part 31. Conditions: in each statement. -/
import Derived.Test.YtibehelnfbcnjaaGreatDoorQW5
set_option linter.all false
set_option linter.unusedSimpArgs false
set_option linter.unusedVariables false
namespace Go.Ab
open Go Go.RowKit
section
variable {P : Program} {w0 : World} {base lo : Nat} {ι ι1 ι2 : Inj} {H H1 H2 : Heap} {w w1 w2 : World}
theorem zca [E : Env] {t : TypeId} {z : AV} (h : zd8 P t = some z) (ι : Inj) (w : World) : (zeroValue t).run P w = .ok (z.conc ι) w := by
  unfold zd8 at h
  cases hi : P.info? t with
  | none => simp [hi] at h
  | some i =>
    cases hz : i.zero with
    | none => simp [hi, hz] at h
    | some v =>
      simp only [hi, hz] at h
      simp [zeroValue, typeInfo, hi, hz, zk4 ι h]
theorem zf0 [E : Env] {t : TypeId} {z : AV} (h : zd8 P t = some z) : z.OK w0 base 0 := by
  unfold zd8 at h
  cases hi : P.info? t with
  | none => simp [hi] at h
  | some i =>
    cases hz : i.zero with
    | none => simp [hi, hz] at h
    | some v => simp only [hi, hz] at h; exact zrh h
theorem zs6 : ∀ (vs : List Value) (cs : List Value) (off k : Nat), off + k + vs.length ≤ cs.length →
    ((vs.zipIdx k).foldl (fun (c : Array Value) (p : Value × Nat) => c.setIfInBounds (off + p.2) p.1) cs.toArray).toList = cs.take (off + k) ++ vs ++ cs.drop (off + k + vs.length)
  | [], cs, off, k, _ => by simp
  | v :: vs, cs, off, k, h => by
    simp only [List.length_cons] at h
    simp only [List.zipIdx_cons, List.foldl_cons, List.setIfInBounds_toArray]
    rw [zs6 vs (cs.set (off + k) v) off (k + 1) (by simp; omega)]
    have h1 : (cs.set (off + k) v).take (off + (k + 1)) = cs.take (off + k) ++ [v] := by
      rw [← Nat.add_assoc, List.take_set, List.set_eq_take_append_cons_drop]
      simp only [List.length_take]
      rw [if_pos (by omega)]
      simp [List.take_take]
    have h2 : (cs.set (off + k) v).drop (off + (k + 1) + vs.length) = cs.drop (off + k + (vs.length + 1)) := by
      rw [List.drop_set_of_lt (by omega)]
      congr 1
      omega
    rw [h1, h2]
    simp
theorem zf4 [E : Env] (place : Nat → Option (Nat × Nat)) : ∀ (parts : List (Nat × AV)) (cells l : List AV), ze9 place cells parts = some l →
    Instr.fill place (cells.map (AV.conc ι)).toArray (parts.map fun p => (p.1, p.2.conc ι)) = some (l.map (AV.conc ι)).toArray
  | [], cells, l, h => by simp only [ze9] at h; cases h; simp [Instr.fill]
  | (i, v) :: rest, cells, l, h => by
    simp only [ze9] at h
    cases hp : place i with
    | none => simp [hp] at h
    | some q =>
      obtain ⟨off, size⟩ := q
      simp only [hp] at h
      split at h
      · rename_i hc
        simp only [Bool.and_eq_true, decide_eq_true_eq] at hc
        obtain ⟨hs, hle⟩ := hc
        have ih := zf4 place rest _ l h
        have hr := zjb v.cells cells off (by omega)
        have hsz := zh9 ι v
        simp only [Instr.fill, List.map_cons, hp]
        have hcond : (decide ((v.conc ι).cells.size ≠ size) || decide (off + (v.conc ι).cells.size > (cells.map (AV.conc ι)).toArray.size)) = false := by
          simp; omega
        rw [if_neg (by simpa using hcond)]
        rw [← ih]
        congr 1
        apply Array.ext'
        rw [zee]
        have hf := zs6 (v.cells.map (AV.conc ι)) (cells.map (AV.conc ι)) off 0 (by simp; omega)
        simp only [Nat.add_zero, List.length_map] at hf
        rw [hr]
        simp only [List.map_append, List.map_take, List.map_drop]
        rw [← hf]
        simp
      · cases h
theorem zlq {x : AV} : ∀ (vs c : List AV) (o : Nat), x ∈ zbd c o vs → x ∈ c ∨ x ∈ vs
  | [], c, o, h => .inl h
  | v :: vs, c, o, h => by
    rcases zlq vs (c.set o v) (o + 1) h with h | h
    · rcases List.mem_or_eq_of_mem_set h with h | h
      · exact .inl h
      · exact .inr (by simp [h])
    · exact .inr (by simp [h])
theorem zne [E : Env] (place : Nat → Option (Nat × Nat)) : ∀ (parts : List (Nat × AV)) (cells l : List AV), ze9 place cells parts = some l →
    l.length = cells.length ∧ ∀ x ∈ l, x ∈ cells ∨ ∃ p ∈ parts, x ∈ p.2.cells
  | [], cells, l, h => by simp only [ze9] at h; cases h; exact ⟨rfl, fun x hx => .inl hx⟩
  | (i, v) :: rest, cells, l, h => by
    simp only [ze9] at h
    split at h
    · cases h
    · split at h
      · obtain ⟨hl, hm⟩ := zne place rest _ l h
        refine ⟨by rw [hl, zof], fun x hx => ?_⟩
        rcases hm x hx with h' | ⟨p, hp, h'⟩
        · rcases zlq _ _ _ h' with h' | h'
          · exact .inl h'
          · exact .inr ⟨(i, v), by simp, h'⟩
        · exact .inr ⟨p, by simp [hp], h'⟩
      · cases h
theorem zkc [E : Env] : ∀ (fs : List Field) (ps : List (Nat × Nat)), zi8 P fs = some ps →
    (fs.mapM fun f => do pure (f.offset, ← sizeOf f.type) : Sem (List (Nat × Nat))).run P w = .ok ps w
  | [], ps, h => by simp only [zi8] at h; cases h; simp
  | f :: fs, ps, h => by
    simp only [zi8] at h
    split at h
    · rename_i s l hs hl
      cases h
      have ih := zkc fs l hl
      simp only [List.mapM_cons, Sem.run_bind, zax hs, Result.andThen_ok, bind_assoc, pure_bind, ih]
      simp
    · cases h
theorem zsm [E : Env] {t : TypeId} {parts : List (Nat × AV)} {v : AV} (h : zsl P t parts = some v) (hok : ∀ p ∈ parts, p.2.OK w0 base H.next) :
    (Instr.build t (parts.map fun p => (p.1, p.2.conc ι)).toArray).run P w = .ok (v.conc ι) w ∧ v.OK w0 base H.next := by
  unfold zsl at h
  cases hz : zd8 P t with
  | none => simp [hz] at h
  | some z =>
    have hmem : ∀ (place : Nat → Option (Nat × Nat)) (l : List AV), ze9 place z.cells parts = some l → (AV.agg l).OK w0 base H.next := fun place l hl => by
      simp only [AV.OK]
      refine (zar ..).2 fun x hx => ?_
      rcases (zne place parts z.cells l hl).2 x hx with h' | ⟨p, hp, h'⟩
      · exact OK.mono (Nat.zero_le _) x (zdy (zf0 hz) x h')
      · exact zdy (hok p hp) x h'
    cases hu : P.underlying t with
    | none => simp [hz, hu] at h
    | some d =>
      cases d <;> simp only [hz, hu] at h <;> try (cases h; done)
      · rename_i len e
        cases hs : za0 P e with
        | none => simp [hs] at h
        | some s =>
          simp only [hs] at h
          obtain ⟨l, hl, rfl⟩ := Option.map_eq_some_iff.1 h
          refine ⟨?_, hmem _ l hl⟩
          have hf := zf4 (ι := ι) _ parts z.cells l hl
          rw [← zee] at hf
          simp [Instr.build, zca hz ι, run_underlying hu, zax hs, hf, AV.conc, zaz]
      · rename_i fs
        cases hp : zi8 P fs.toList with
        | none => simp [hp] at h
        | some ps =>
          simp only [hp] at h
          obtain ⟨l, hl, rfl⟩ := Option.map_eq_some_iff.1 h
          refine ⟨?_, hmem _ l hl⟩
          have hf := zf4 (ι := ι) _ parts z.cells l hl
          rw [← zee] at hf
          have hpl := zkc (P := P) (w := w) fs.toList ps hp
          have hma : (fs.mapM fun f => do pure (f.offset, ← sizeOf f.type) : Sem (Array (Nat × Nat))).run P w = .ok ps.toArray w := by
            rw [Array.mapM_eq_mapM_toList, Sem.run_map, hpl]; rfl
          simp only [Instr.build, Sem.run_bind, zca hz ι, run_underlying hu, Result.andThen_ok, hma]
          have e : (fun i : Nat => ps.toArray[i]?) = (fun i : Nat => ps[i]?) := by funext i; simp
          simp only [e, hf]
          simp [AV.conc, zaz]
theorem zuw (z : List AV) : ∀ n : Nat, ((Array.range (n * z.length)).map fun i => ((z.map (AV.conc ι)).toArray)[i % (z.map (AV.conc ι)).toArray.size]!) = ((zbu z n).map (AV.conc ι)).toArray := by
  intro n
  apply Array.ext'
  simp only [Array.toList_map, Array.toList_range, List.size_toArray, List.length_map]
  induction n with
  | zero => simp [zbu]
  | succ n ih =>
    rw [Nat.succ_mul, Nat.add_comm, List.range_add, List.map_append]
    simp only [zbu, List.map_append]
    congr 1
    · apply List.ext_getElem?
      intro i
      by_cases hi : i < z.length
      · simp [hi, Nat.mod_eq_of_lt hi]
      · simp [hi]
    · rw [← ih]
      simp only [List.map_map]
      apply List.map_congr_left
      intro i _
      simp
theorem zk2 {x : AV} {z : List AV} : ∀ n, x ∈ zbu z n → x ∈ z
  | 0, h => by simp [zbu] at h
  | n + 1, h => by simp only [zbu, List.mem_append] at h; exact h.elim id (zk2 n)
theorem zc6 (z : List AV) : ∀ n, (zbu z n).length = n * z.length
  | 0 => by simp [zbu]
  | n + 1 => by simp [zbu, zc6 z n, Nat.succ_mul, Nat.add_comm]
theorem zkv [E : Env] (s : Sim P w0 base ι H w) {t : TypeId} {len : Nat} {parts : List (Nat × AV)} {v : AV} {H' : Heap} (h : zdd P H t len parts = some (v, H'))
    (hok : ∀ p ∈ parts, p.2.OK w0 base H.next) (hlo : lo ≤ H.next) :
    ∃ ι' w', (Instr.buildSlice t len (parts.map fun p => (p.1, p.2.conc ι)).toArray).run P w = .ok (v.conc ι') w' ∧ Post P w0 base lo ι H w ι' H' w' ∧ v.OK w0 base H'.next := by
  unfold zdd at h
  cases hu : P.underlying t with
  | none => simp [hu] at h
  | some d =>
    cases d <;> simp only [hu] at h <;> try (cases h; done)
    rename_i e
    cases hs : za0 P e with
    | none => simp [hs] at h
    | some sz =>
      cases hz : zd8 P e with
      | none => simp [hs, hz] at h
      | some z =>
        simp only [hs, hz] at h
        split at h
        · rename_i hc
          simp only [Bool.and_eq_true, decide_eq_true_eq] at hc
          obtain ⟨⟨⟨h24, hzl⟩, hlz⟩, hlp⟩ := hc
          split at h
          · rename_i cs hcs
            cases h
            have hf := zf4 (ι := ι) _ parts _ cs hcs
            obtain ⟨hlen, hmem⟩ := zne _ parts _ cs hcs
            rw [zc6, hzl] at hlen
            have hze := zuw (ι := ι) z.cells len
            rw [hzl] at hze
            have hz0 : ((if len * sz = 0 then pure #[] else do pure (← zeroValue e).cells : Sem (Array Value)).run P w) = .ok (if len * sz = 0 then #[] else (z.conc ι).cells) w := by
              split <;> simp [zca hz ι]
            have hzz : ((Array.range (len * sz)).map fun i => (if len * sz = 0 then #[] else (z.conc ι).cells)[i % (if len * sz = 0 then #[] else (z.conc ι).cells).size]!) = ((zbu z.cells len).map (AV.conc ι)).toArray := by
              by_cases h0 : len * sz = 0
              · have : zbu z.cells len = [] := List.eq_nil_of_length_eq_zero (by rw [zc6, hzl]; exact h0)
                simp [h0, this]
              · simp only [h0, if_false, zee]
                exact hze
            have ha := Post.alloc (lo := lo) s (.cells e cs) (.cells (cs.map (AV.conc ι)).toArray e) len
              (fun x hx => by
                rcases hmem x hx with h' | ⟨p, hp, h'⟩
                · exact OK.mono (Nat.zero_le _) x (zdy (zf0 hz) x (zk2 _ h'))
                · exact zdy (hok p hp) x h')
              ⟨_, rfl, ⟨[], by simp⟩, by simp [hlen, za9 hs]⟩ hlo
            refine ⟨_, _, ?_, ha, by simp [AV.OK]⟩
            have h24' : ¬ (16777216 < len * sz) := by omega
            by_cases h0 : len * sz = 0
            · simp only [h0, if_true] at hzz
              simp only [Instr.buildSlice, Sem.run_bind, run_underlying hu, zax hs, Result.andThen_ok]
              rw [if_neg (by omega)]
              simp only [h0, if_true, pure_bind, Sem.run_bind, Result.andThen_ok]
              rw [hzz, hf]
              simp [newRow, newObj, Sem.run, AV.conc]
            · simp only [h0, if_false] at hzz
              simp only [Instr.buildSlice, Sem.run_bind, run_underlying hu, zax hs, Result.andThen_ok]
              rw [if_neg (by omega)]
              simp only [h0, if_false, pure_bind, bind_assoc, Sem.run_bind, Result.andThen_ok, zca hz ι]
              rw [hzz, hf]
              simp [newRow, newObj, Sem.run, AV.conc]
          · cases h
        · cases h
end
end Go.Ab
