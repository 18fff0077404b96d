/- What the law's proof leans on, part 32. Conditions: in each statement. -/
import Derived.Test.YtibehelnfbcnjaaGreatDoorQW6
set_option linter.all false
set_option linter.unusedSimpArgs false
set_option linter.unusedVariables false
namespace Go.Ab
open Go Go.RowKit
section
variable {P : Program} {w0 : World} {base lo : Nat} {ι ι1 ι2 : Inj} {H H1 H2 : Heap} {w w1 w2 : World}
theorem zzg {n : Int} (h : -9223372036854775808 ≤ n) (h' : n ≤ 9223372036854775807) : IntKind.i64.wrap n = n := by
  have e : IntKind.i64.wrap n = if n % 18446744073709551616 ≥ 9223372036854775808 then n % 18446744073709551616 - 18446744073709551616 else n % 18446744073709551616 := by
    simp [IntKind.wrap, IntKind.bits, IntKind.signed]
  rw [e]
  split <;> omega
theorem zl6 [E : Env] (s : Sim P w0 base ι H w) {t : TypeId} {l c v : AV} {H' : Heap} (h : zea P H t l c = some (v, H')) (hlo : lo ≤ H.next) :
    ∃ ι' w', (Instr.makeSlice t (l.conc ι) (c.conc ι)).run P w = .ok (v.conc ι') w' ∧ Post P w0 base lo ι H w ι' H' w' ∧ v.OK w0 base H'.next := by
  unfold zea at h
  split at h
  · rename_i e l c hu
    split at h
    · rename_i i z hi hz
      split at h
      · rename_i hc
        cases h
        simp only [Bool.and_eq_true, decide_eq_true_eq] at hc
        obtain ⟨⟨⟨⟨⟨h0, hlc⟩, hb⟩, h63⟩, hzl⟩, hleaf⟩ := hc
        have hs : za0 P e = some i.size := by simp [za0, hi]
        have hwl : IntKind.i64.wrap l = l := zzg (by omega) (by omega)
        have hwc : IntKind.i64.wrap c = c := zzg (by omega) (by omega)
        have hc0 : ¬ (c < 0) := by omega
        have hl0 : ¬ (l < 0) := by omega
        have hcl : ¬ (c < l) := by omega
        have hb' : ¬ (281474976710656 < (i.bytes : Int) * c) := by omega
        have hnat : c.toNat * i.bytes ≤ 70368744177664 := by
          have : ((c.toNat * i.bytes : Nat) : Int) ≤ 70368744177664 := by
            rw [Int.natCast_mul, Int.toNat_of_nonneg (by omega), Int.mul_comm]; exact hb
          omega
        have hroom : ¬ (c.toNat * i.bytes > roomBytes) := by simp [roomBytes]; omega
        have hze := zuw (ι := ι) z.cells c.toNat
        rw [hzl] at hze
        have hn : ((if c.toNat * i.size = 0 then pure #[] else do pure (← zeroValue e).cells : Sem (Array Value)).run P w) = .ok (if c.toNat * i.size = 0 then #[] else (z.conc ι).cells) w := by
          split <;> simp [zca hz ι]
        have hzz : ((Array.range (c.toNat * i.size)).map fun k => (if c.toNat * i.size = 0 then #[] else (z.conc ι).cells)[k % (if c.toNat * i.size = 0 then #[] else (z.conc ι).cells).size]!) = ((zbu z.cells c.toNat).map (AV.conc ι)).toArray := by
          by_cases hx : c.toNat * i.size = 0
          · have : zbu z.cells c.toNat = [] := List.eq_nil_of_length_eq_zero (by rw [zc6, hzl]; exact hx)
            simp [hx, this]
          · simp only [hx, if_false, zee]
            exact hze
        have hsplit : ∃ m, c.toNat = l.toNat + m := ⟨c.toNat - l.toNat, by omega⟩
        obtain ⟨m, hm⟩ := hsplit
        have happ : ∀ a b : Nat, zbu z.cells (a + b) = zbu z.cells a ++ zbu z.cells b := fun a b => by
          induction a with
          | zero => simp [zbu]
          | succ a ih => rw [Nat.succ_add]; simp [zbu, ih]
        have ha := Post.alloc (lo := lo) s (.cells e (zbu z.cells l.toNat)) (.cells ((zbu z.cells c.toNat).map (AV.conc ι)).toArray e) c.toNat
          (fun x hx => OK.mono (Nat.zero_le _) x (zdy (zf0 hz) x (zk2 _ hx)))
          ⟨_, rfl, ⟨(zbu z.cells m).map (AV.conc ι), by rw [hm, happ]; simp⟩, by simp [zc6, hzl, za9 hs]⟩ hlo
        refine ⟨_, _, ?_, ha, by simp [AV.OK]⟩
        by_cases hx : c.toNat * i.size = 0
        · simp only [hx, if_true] at hzz
          simp only [Instr.makeSlice, Sem.run_bind, run_underlying hu, Result.andThen_ok, AV.conc, asInt, asIntOf, pure_bind, typeInfo]
          simp [hi, hwl, hwc, hc0, hl0, hcl, hb', askRoom, hroom, zax hs]
          simp only [hx, if_true]
          simp at hzz
          simp [hzz, newRow, newObj, Sem.run]
        · simp only [hx, if_false] at hzz
          simp only [Instr.makeSlice, Sem.run_bind, run_underlying hu, Result.andThen_ok, AV.conc, asInt, asIntOf, pure_bind, typeInfo]
          simp [hi, hwl, hwc, hc0, hl0, hcl, hb', askRoom, hroom, zax hs]
          simp only [hx, if_false, zca hz ι, Result.andThen_ok]
          rw [hzz]
          simp [newRow, newObj, Sem.run]
      · cases h
    · cases h
  · cases h
theorem ziz {d : Nat} {v : AV} {n y : Nat} (h : zba d (some v) = some n) (hn : n ≤ y) (code : BoundsCode) :
    (Instr.sliceBound (v.conc ι) y code).run P w = .ok n w := by
  unfold zba at h
  split at h
  · rename_i e; cases e
  · rename_i m e
    cases e
    split at h
    · cases h
      have : 0 ≤ m ∧ m ≤ (y : Int) := by omega
      simp [Instr.sliceBound, AV.conc, asIntOf, this]
    · cases h
  · cases h
theorem zbt [E : Env] {lo' hi : Option AV} {len cap l h : Nat} (isS : Bool) (hl : zba 0 lo' = some l) (hh : zba len hi = some h) (h1 : l ≤ h) (h2 : h ≤ cap) :
    (Instr.sliceBounds isS len cap (lo'.map (AV.conc ι)) (hi.map (AV.conc ι)) none).run P w = .ok (l, h, cap) w := by
  unfold Instr.sliceBounds
  cases hi with
  | none =>
    have e1 : len = h := by simpa [zba] using hh
    subst e1
    cases lo' with
    | none =>
      have e2 : 0 = l := by simpa [zba] using hl
      subst e2; simp
    | some u => simp [ziz (P := P) (ι := ι) (w := w) hl h1]
  | some v =>
    have e1 := fun code => ziz (P := P) (ι := ι) (w := w) hh h2 code
    cases lo' with
    | none =>
      have e2 : 0 = l := by simpa [zba] using hl
      subst e2; simp [e1]
    | some u => simp [e1, ziz (P := P) (ι := ι) (w := w) hl h1]
theorem zmc (a : Addr) (i j : Nat) : (a.add i).add j = a.add (i + j) := by
  unfold Addr.add
  by_cases hi : i = 0 <;> by_cases hj : j = 0 <;> simp [hi, hj]
  omega
theorem zcg (a : Addr) (i : Nat) : (a.add i).block = a.block := by unfold Addr.add; split <;> rfl
theorem zru [E : Env] (s : Sim P w0 base ι H w) {t : TypeId} {x v : AV} {lo' hi : Option AV} (hna : ∀ n e, P.underlying t ≠ some (.array n e)) (h : zda P H t x lo' hi = some v) (hok : x.OK w0 base H.next) :
    (Instr.slice t (x.conc ι) (lo'.map (AV.conc ι)) (hi.map (AV.conc ι)) none).run P w = .ok (v.conc ι) w ∧ v.OK w0 base H.next := by
  unfold zda at h
  split at h
  · rename_i s hu
    split at h
    · rename_i l hh hl hhi
      split at h
      · rename_i hc
        simp only [Bool.and_eq_true, decide_eq_true_eq] at hc
        cases h
        refine ⟨?_, trivial⟩
        have := zbt (P := P) (ι := ι) (w := w) false hl hhi hc.1 hc.2
        simp only [Instr.slice, Sem.run_bind, run_underlying hu, Result.andThen_ok, AV.conc, Option.isSome_none, Bool.false_eq_true, if_false, pure_bind, this]
        rfl
      · cases h
    · cases h
  · rename_i e a cap sz xs hu
    split at h
    · rename_i s l hh hs hl hhi
      split at h
      · rename_i hc
        simp only [Bool.and_eq_true, Bool.or_eq_true, decide_eq_true_eq, List.isEmpty_iff] at hc
        obtain ⟨⟨hsz, hlh⟩, hhx⟩ := hc
        cases h
        have hcap : xs.length ≤ cap := by
          cases a with
          | none => simp only [AV.OK] at hok; simp [hok.1]
          | some a => simp only [AV.OK] at hok; exact hok.1
        have := zbt (P := P) (ι := ι) (w := w) (cap := cap) true hl hhi hlh (Nat.le_trans hhx hcap)
        have hlen : ((xs.drop l).take (hh - l)).length = hh - l := by simp; omega
        constructor
        · simp only [Instr.slice, Sem.run_bind, run_underlying hu, Result.andThen_ok, AV.conc, this, zax hs, hlen]
          cases a <;> by_cases hcl : cap = l <;> simp [hcl]
        · cases a with
          | none =>
            simp only [AV.OK] at hok
            obtain ⟨rfl, rfl⟩ := hok
            simp [AV.OK]
          | some a =>
            simp only [AV.OK] at hok
            have hL := (zar ..).1 hok.2.2
            have hin : ∀ i e, ((xs.drop l).take (hh - l))[i]? = some e → xs[l + i]? = some e := fun i e he => by
              rw [List.getElem?_take] at he
              split at he
              · rwa [List.getElem?_drop] at he
              · cases he
            have hOK2 : AV.OKL w0 base 0 ((xs.drop l).take (hh - l)) := (zar ..).2 fun x hx => hL x (List.mem_of_mem_drop (List.mem_of_mem_take hx))
            by_cases hcl : cap = l
            · have : (xs.drop l).take (hh - l) = [] := List.eq_nil_of_length_eq_zero (by rw [hlen]; omega)
              simp [hcl, AV.OK, this, AV.OKL]
            · simp only [hcl, if_false, Option.map_some, AV.OK]
              refine ⟨by rw [hlen]; omega, fun ι i e he => ?_, hOK2⟩
              have hx := hin i e he
              have hne : xs ≠ [] := fun h0 => by simp [h0] at hx
              have hszs : s = sz := hsz.resolve_right hne
              obtain ⟨hb, hsz', hcell⟩ := hok.2.1 ι (l + i) e hx
              refine ⟨by rw [zcg]; exact hb, hszs ▸ hsz', fun j c hj => ?_⟩
              rw [zmc a, ← Nat.add_mul, hszs]
              exact hcell j c hj
      · cases h
    · cases h
  · rename_i e b i n sz hu
    split at h
    · rename_i sx l hh hs hl hhi
      split at h
      · rename_i u c hb
        split at h
        · rename_i hc
          simp only [Bool.and_eq_true, Bool.or_eq_true, decide_eq_true_eq] at hc
          obtain ⟨⟨⟨⟨⟨⟨hsz, hu2⟩, hpos⟩, hin⟩, hlh⟩, hhn⟩, hln⟩ := hc
          cases h
          refine ⟨?_, by simpa [AV.OK] using hok⟩
          obtain ⟨cur, ho, ⟨rest, hr⟩, hcs⟩ := s.rel b _ hb
          have hcur : c.length ≤ cur.size := by
            have := congrArg List.length hr
            simp at this; omega
          have hcap : i + n ≤ (ι b).2 := by
            rw [hcs, za9 hu2] at hcur
            exact Nat.le_of_mul_le_mul_right (Nat.le_trans hin hcur) hpos
          have := zbt (P := P) (ι := ι) (w := w) (cap := (ι b).2 - i) true hl hhi hlh (by omega)
          subst hsz
          simp only [Instr.slice, Sem.run_bind, run_underlying hu, Result.andThen_ok, AV.conc, this, zax hs]
          by_cases hcl : (ι b).2 - i = l
          · have hl0 : l = 0 := by omega
            subst hl0
            simp [hcl]
          · simp only [hcl, if_false, Option.map_some, zb7, Sem.run_pure, ← Nat.add_mul]
            congr 2
            omega
        · cases h
      · cases h
    · cases h
  · rename_i e b o n cap sz hu
    split at h
    · rename_i sx l hh hs hl hhi
      split at h
      · rename_i hc
        simp only [Bool.and_eq_true, Bool.or_eq_true, decide_eq_true_eq] at hc
        obtain ⟨⟨⟨⟨hsz, hlh⟩, hhn⟩, hnc⟩, hlc⟩ := hc
        cases h
        refine ⟨?_, by simpa [AV.OK] using hok⟩
        have := zbt (P := P) (ι := ι) (w := w) (cap := cap) true hl hhi hlh (by omega)
        subst hsz
        simp only [Instr.slice, Sem.run_bind, run_underlying hu, Result.andThen_ok, AV.conc, this, zax hs]
        by_cases hcl : cap = l
        · have hl0 : l = 0 := by omega
          subst hl0
          simp [hcl]
        · simp only [hcl, if_false, Option.map_some, zb7, Sem.run_pure]
      · cases h
    · cases h
  · rename_i n e b o hu
    exact absurd hu (hna n e)
  · cases h
theorem zuj [E : Env] (s : Sim P w0 base ι H w) {t : TypeId} {x v : AV} {lo' hi : Option AV} (h : zda P H t x lo' hi = some v) (hok : x.OK w0 base H.next) :
    (Instr.sliceAt t (x.conc ι) (lo'.map (AV.conc ι)) (hi.map (AV.conc ι)) none).run P w = .ok (v.conc ι) w ∧ v.OK w0 base H.next := by
  cases hu : P.underlying t with
  | none => unfold zda at h; rw [hu] at h; cases x <;> simp at h
  | some d =>
    by_cases hd : ∃ n e, d = .array n e
    · obtain ⟨n, e, rfl⟩ := hd
      unfold zda at h
      rw [hu] at h
      cases x with
      | ptr b o =>
        simp only at h
        split at h
        · rename_i sx l hh hs hl hhi
          split at h
          · rename_i hc
            simp only [Bool.and_eq_true, decide_eq_true_eq] at hc
            obtain ⟨⟨hlh, hhn⟩, hln⟩ := hc
            cases h
            refine ⟨?_, by simpa [AV.OK] using hok⟩
            have := zbt (P := P) (ι := ι) (w := w) (cap := n) false hl hhi hlh hhn
            simp only [Instr.sliceAt, Sem.run_bind, run_underlying hu, Result.andThen_ok, AV.conc, Instr.sureAddr, pure_bind, this, zax hs]
            rw [if_neg (show ¬ n = l by omega)]
            simp only [zb7, Sem.run_pure]
          · cases h
        · cases h
      | _ => simp at h
    · have hna : ∀ n e, P.underlying t ≠ some (.array n e) := fun n e q => hd ⟨n, e, Option.some.inj (hu.symm.trans q)⟩
      have hat : (Instr.sliceAt t (x.conc ι) (lo'.map (AV.conc ι)) (hi.map (AV.conc ι)) none).run P w = (Instr.slice t (x.conc ι) (lo'.map (AV.conc ι)) (hi.map (AV.conc ι)) none).run P w := by
        unfold Instr.sliceAt
        simp only [Sem.run_bind, run_underlying hu, Result.andThen_ok]
        cases d <;> first | rfl | exact absurd hu (hna _ _)
      rw [hat]
      exact zru s hna h hok
end
end Go.Ab
