/- What the law's proof leans on, part 30. Conditions: in each statement. -/
import Derived.Test.YtibehelnfbcnjaaGreatDoorQW4
import Derived.Laws.StructEq
import Derived.ChangeKeysEq
set_option linter.all false
set_option linter.unusedSimpArgs false
set_option linter.unusedVariables false
namespace Go.Ab
open Go Go.RowKit
section
variable {P : Program} {w0 : World} {base lo : Nat} {ι ι1 ι2 : Inj} {H H1 H2 : Heap} {w w1 w2 : World}
def scal : AV → Bool
  | .bool _ | .int _ _ | .str _ => true
  | _ => false
theorem yapw {v : AV} {n : Nat} (h : scal v = true) : v.OK w0 base n := by cases v <;> first | trivial | simp [scal] at h
theorem yazw {v : AV} (h : scal v = true) : v.rf = true := by cases v <;> first | rfl | simp [scal] at h
theorem zql {op : BinOp} {k : IntKind} {a b : Int} {v : AV} (h : zb8 op k a b = some v) (t : TypeId) (hop : op ≠ .shl ∧ op ≠ .shr) :
    (binOp op t (.int k a) (.int k b)).run P w = .ok (v.conc ι) w ∧ zdf v = true ∧ scal v = true := by
  cases op <;> simp only [zb8] at h <;> (try split at h) <;> first
    | (cases h; done)
    | (cases h
       refine ⟨?_, rfl, rfl⟩
       first
         | (simp [binOp, Op.intArith, Op.intBits, Op.intCmp, AV.conc]; done)
         | (rename_i hb; simp [binOp, Op.intDiv, hb, AV.conc]; done))
theorem zly {op : BinOp} {k k' : IntKind} {a b : Int} {v : AV} (h : zdw op k a b = some v) :
    (Op.shift op k a k' b).run P w = .ok (v.conc ι) w ∧ zdf v = true ∧ scal v = true := by
  unfold zdw at h
  split at h
  · cases h
  · rename_i hb
    cases op <;> simp only [] at h <;> first
      | (cases h; done)
      | (cases h; exact ⟨by simp [Op.shift, hb, AV.conc], rfl, rfl⟩)
theorem zqm {op : BinOp} {a b : ByteArray} {v : AV} (h : zf1 op a b = some v) :
    (Op.stringOp op a b).run P w = .ok (v.conc ι) w ∧ zdf v = true ∧ scal v = true := by
  cases op <;> simp only [zf1] at h <;> (try split at h) <;> first
    | (cases h; done)
    | (cases h
       refine ⟨?_, rfl, rfl⟩
       first
         | (simp [Op.stringOp, ByteArray.toList_eq, AV.conc]; done)
         | (rename_i hs
            have hs' : ¬ (9223372036854775807 < ((a.size : Int) + (b.size : Int))) := by omega
            simp [Op.stringOp, hs', AV.conc]; done))
theorem zqw {t : TypeId} {x y : AV} {r : Bool} (h : zcz x y = some r) (d : Nat) (hm : zbf P t x = true) :
    (Op.equalIn (d + 1) t (x.conc ι) (y.conc ι)).run P w = .ok r w := by
  unfold zbf at hm
  split at hm <;> (try (cases hm; done))
  · rename_i k n hu
    cases y <;> simp only [zcz] at h <;> try (cases h; done)
    split at h
    · rename_i hk; subst hk; cases h; exact run_equalIn_int w d t _ _ _ _ hu
    · cases h
  · rename_i s hu
    cases y <;> simp only [zcz] at h <;> try (cases h; done)
    cases h
    rw [← ByteArray.toList_eq, ← ByteArray.toList_eq]
    exact run_equalIn_string w d t _ _ hu
  · rename_i b hu
    cases y <;> simp only [zcz] at h <;> try (cases h; done)
    cases h; exact run_equalIn_bool' w d t _ _ hu
theorem ztk {t : TypeId} {x : AV} (hm : zbf P t x = true) : ze1 P t = some false ∧ zdf x = true := by
  unfold zbf at hm
  split at hm <;> (try (cases hm; done)) <;> (rename_i hu; simp [ze1, hu, zdf])
theorem zlk [E : Env] (d : Nat) (xs0 ys0 : List AV) : ∀ (fs : List Field) (i : Nat) (xs ys : List AV) (r : Bool), znb P fs i xs ys = some r →
    xs0.drop i = xs → ys0.drop i = ys → (Op.eqFields (d + 1) (xs0.map (AV.conc ι)).toArray (ys0.map (AV.conc ι)).toArray fs).run P w = .ok r w
  | [], i, xs, ys, r, h, hx, hy => by
    cases xs <;> cases ys <;> simp only [znb] at h <;> cases h
    simp [Op.eqFields]
  | f :: fs, i, [], _, r, h, hx, hy => by simp [znb] at h
  | f :: fs, i, _ :: _, [], r, h, hx, hy => by simp [znb] at h
  | f :: fs, i, x :: xs, y :: ys, r, h, hx, hy => by
    simp only [znb] at h
    split at h
    · rename_i hc
      simp only [Bool.and_eq_true, beq_iff_eq, bne_iff_ne] at hc
      obtain ⟨⟨ho, hn⟩, hk⟩ := hc
      split at h
      · rename_i a b ha hb
        cases h
        have hx0 : xs0[i]? = some x := by have := congrArg List.head? hx; simpa using this
        have hy0 : ys0[i]? = some y := by have := congrArg List.head? hy; simpa using this
        have hp : ∀ (zs : List AV) (z : AV), zs[i]? = some z → (part f.type (zs.map (AV.conc ι)).toArray f.offset).run P w = .ok (z.conc ι) w := by
          intro zs z hz
          simp [part, zfw (ztk hk).1, ho, hz]
        have ih := zlk d xs0 ys0 fs (i + 1) xs ys b hb (by rw [← List.drop_drop, hx]; rfl) (by rw [← List.drop_drop, hy]; rfl)
        rw [Op.eqFields]
        simp only [if_pos hn, Sem.run_bind, hp xs0 x hx0, hp ys0 y hy0, zqw ha d hk, Result.andThen_ok]
        cases a
        · simp
        · simpa using ih
      · cases h
    · cases h
set_option maxHeartbeats 2000000 in
theorem zjm [E : Env] {t : TypeId} {x y : AV} {r : Bool} (h : eqA P t x y = some r) (X Y : Operand) :
    (eqGuard .eql t X Y (x.conc ι) (y.conc ι)).run P w = .ok () w ∧ (eqGuard .neq t X Y (x.conc ι) (y.conc ι)).run P w = .ok () w ∧
      (Op.equal t (x.conc ι) (y.conc ι)).run P w = .ok r w ∧ (∀ k n, x ≠ .int k n) ∧ (∀ s, x ≠ .str s) := by
  have e1 : Op.maxDepth = 9999 + 1 := rfl
  cases hu : P.underlying t with
  | none => unfold eqA at h; simp [hu] at h
  | some td =>
    cases td with
    | struct fs =>
      cases x <;> cases y <;> simp only [eqA, hu] at h <;> try (cases h; done)
      rename_i xs ys
      split at h
      · rename_i hc
        simp only [Bool.and_eq_true, Bool.not_eq_true'] at hc
        have hf : P.fieldsOf t = fs := by simp [Program.fieldsOf, hu]
        have hs := zlk (P := P) (ι := ι) (w := w) 9998 xs ys fs.toList 0 xs ys r h rfl rfl
        refine ⟨?_, ?_, ?_, by simp, by simp⟩
        · exact run_eqGuard_agg w _ t X Y _ _ hc.2
        · exact run_eqGuard_agg w _ t X Y _ _ hc.2
        · unfold Op.equal; rw [e1]
          simp only [AV.conc, zaz]
          rw [run_equalIn_struct (P := P) w 9999 t _ _ (by rw [hf]; exact hu) hc.1, hf]
          exact hs
      · cases h
    | bool =>
      cases x <;> cases y <;> simp only [eqA, hu] at h <;> try (cases h; done)
      cases h
      refine ⟨rfl, rfl, ?_, by simp, by simp⟩
      unfold Op.equal; rw [e1]
      exact run_equalIn_bool' w 9999 t _ _ hu
    | pointer e =>
      cases x <;> cases y <;> simp only [eqA, hu] at h <;> (try (cases h; done)) <;>
        (cases h; refine ⟨rfl, rfl, ?_, by simp, by simp⟩; unfold Op.equal; rw [e1]; clear e1; generalize 9999 = d; simp [Op.equalIn, run_underlying hu, AV.conc])
    | slice e =>
      cases x with
      | rsl a c s l =>
        cases y with
        | rsl b c' s' l' =>
          cases a <;> cases b <;> simp only [eqA, hu] at h <;> (try (cases h; done)) <;>
            (cases h; refine ⟨rfl, rfl, ?_, by simp, by simp⟩; unfold Op.equal; rw [e1]; clear e1; generalize 9999 = d; simp [Op.equalIn, run_underlying hu, AV.conc])
        | sl _ _ _ _ =>
          cases a <;> simp only [eqA, hu] at h <;> (try (cases h; done)) <;>
            (cases h; refine ⟨rfl, rfl, ?_, by simp, by simp⟩; unfold Op.equal; rw [e1]; clear e1; generalize 9999 = d; simp [Op.equalIn, run_underlying hu, AV.conc])
        | asl _ _ _ _ _ =>
          cases a <;> simp only [eqA, hu] at h <;> (try (cases h; done)) <;>
            (cases h; refine ⟨rfl, rfl, ?_, by simp, by simp⟩; unfold Op.equal; rw [e1]; clear e1; generalize 9999 = d; simp [Op.equalIn, run_underlying hu, AV.conc])
        | _ => cases a <;> simp [eqA, hu] at h
      | asl _ _ _ _ _ =>
        cases y with
        | rsl b c' s' l' =>
          cases b <;> simp only [eqA, hu] at h <;> (try (cases h; done)) <;>
            (cases h; refine ⟨rfl, rfl, ?_, by simp, by simp⟩; unfold Op.equal; rw [e1]; clear e1; generalize 9999 = d; simp [Op.equalIn, run_underlying hu, AV.conc])
        | _ => simp [eqA, hu] at h
      | sl _ _ _ _ =>
        cases y with
        | rsl b c' s' l' =>
          cases b <;> simp only [eqA, hu] at h <;> (try (cases h; done)) <;>
            (cases h; refine ⟨rfl, rfl, ?_, by simp, by simp⟩; unfold Op.equal; rw [e1]; clear e1; generalize 9999 = d; simp [Op.equalIn, run_underlying hu, AV.conc])
        | _ => simp [eqA, hu] at h
      | _ => cases y <;> simp [eqA, hu] at h
    | map k e =>
      cases x with
      | map a =>
        cases y with
        | map b =>
          cases a <;> cases b <;> simp only [eqA, hu] at h <;> (try (cases h; done)) <;>
            (cases h; refine ⟨rfl, rfl, ?_, by simp, by simp⟩; unfold Op.equal; rw [e1]; clear e1; generalize 9999 = d; simp [Op.equalIn, run_underlying hu, AV.conc])
        | _ => cases a <;> simp [eqA, hu] at h
      | _ => cases y <;> simp [eqA, hu] at h
    | func a b c =>
      cases x <;> cases y <;> simp only [eqA, hu] at h <;> (try (cases h; done)) <;>
        (cases h; refine ⟨rfl, rfl, ?_, by simp, by simp⟩; unfold Op.equal; rw [e1]; clear e1; generalize 9999 = d; simp [Op.equalIn, run_underlying hu, AV.conc])
    | _ => cases x <;> cases y <;> simp [eqA, hu] at h
set_option maxHeartbeats 2000000 in
theorem zzj [E : Env] {op : BinOp} {t : TypeId} {x y v : AV} (h : zdi P op t x y = some v) (X Y : Operand) :
    (do eqGuard op t X Y (x.conc ι) (y.conc ι); binOp op t (x.conc ι) (y.conc ι) : Sem Value).run P w = .ok (v.conc ι) w ∧ zdf v = true ∧ scal v = true := by
  by_cases hxi : ∃ k a, x = .int k a
  · obtain ⟨k, a, rfl⟩ := hxi
    have hg : eqGuard op t X Y ((AV.int k a).conc ι) (y.conc ι) = pure () := eqGuard_at_int ..
    rw [hg]
    cases y with
    | int k' b =>
      by_cases h1 : op = .shl
      · subst h1; simp only [zdi] at h
        have := zly (P := P) (ι := ι) (w := w) (k' := k') h
        simpa [AV.conc, binOp] using this
      · by_cases h2 : op = .shr
        · subst h2; simp only [zdi] at h
          have := zly (P := P) (ι := ι) (w := w) (k' := k') h
          simpa [AV.conc, binOp] using this
        · have h' : (if k = k' then zb8 op k a b else none) = some v := by
            cases op <;> first | exact absurd rfl h1 | exact absurd rfl h2 | exact h
          split at h'
          · rename_i hk; subst hk
            have := zql (P := P) (ι := ι) (w := w) h' t ⟨h1, h2⟩
            simpa [AV.conc] using this
          · cases h'
    | _ =>
      exfalso
      cases op <;> simp only [zdi] at h <;> (try (cases h; done)) <;>
        (obtain ⟨r, hr, _⟩ := Option.map_eq_some_iff.1 h
         exact (zjm (P := P) (ι := ι) (w := w) hr X Y).2.2.2.1 _ _ rfl)
  · by_cases hxs : ∃ s, x = .str s
    · obtain ⟨s, rfl⟩ := hxs
      have hg : eqGuard op t X Y ((AV.str s).conc ι) (y.conc ι) = pure () := eqGuard_at_string ..
      rw [hg]
      cases y with
      | str s' =>
        have h' : zf1 op s s' = some v := by cases op <;> first | exact h | (simp [zdi, zf1] at h)
        have := zqm (P := P) (ι := ι) (w := w) h'
        have e : binOp op t (.string s) (.string s') = Op.stringOp op s s' := by cases op <;> rfl
        simpa [AV.conc, e] using this
      | _ =>
        exfalso
        cases op <;> simp only [zdi] at h <;> (try (cases h; done)) <;>
          (obtain ⟨r, hr, _⟩ := Option.map_eq_some_iff.1 h
           exact (zjm (P := P) (ι := ι) (w := w) hr X Y).2.2.2.2 _ rfl)
    · cases op with
      | eql =>
        have h' : (eqA P t x y).map AV.bool = some v := by
          cases x <;> first | exact absurd ⟨_, _, rfl⟩ hxi | exact absurd ⟨_, rfl⟩ hxs | exact h
        obtain ⟨r, hr, rfl⟩ := Option.map_eq_some_iff.1 h'
        have hs := zjm (P := P) (ι := ι) (w := w) hr X Y
        have e : binOp .eql t (x.conc ι) (y.conc ι) = (do pure (.bool (← Op.equal t (x.conc ι) (y.conc ι)))) := by
          cases x with
          | int k a => exact absurd ⟨_, _, rfl⟩ hxi
          | str s => exact absurd ⟨_, rfl⟩ hxs
          | map b => cases b <;> rfl
          | _ => rfl
        refine ⟨?_, rfl, rfl⟩
        simp [hs.1, e, hs.2.2.1, AV.conc]
      | neq =>
        have h' : ((eqA P t x y).map fun b => AV.bool !b) = some v := by
          cases x <;> first | exact absurd ⟨_, _, rfl⟩ hxi | exact absurd ⟨_, rfl⟩ hxs | exact h
        obtain ⟨r, hr, rfl⟩ := Option.map_eq_some_iff.1 h'
        have hs := zjm (P := P) (ι := ι) (w := w) hr X Y
        have e : binOp .neq t (x.conc ι) (y.conc ι) = (do pure (.bool (!(← Op.equal t (x.conc ι) (y.conc ι))))) := by
          cases x with
          | int k a => exact absurd ⟨_, _, rfl⟩ hxi
          | str s => exact absurd ⟨_, rfl⟩ hxs
          | map b => cases b <;> rfl
          | _ => rfl
        refine ⟨?_, rfl, rfl⟩
        simp [hs.2.1, e, hs.2.2.1, AV.conc]
      | _ =>
        exfalso
        cases x <;> first
          | exact hxi ⟨_, _, rfl⟩
          | exact hxs ⟨_, rfl⟩
          | (cases y <;> simp [zdi] at h)
theorem yaf3 {op : UnOp} {x v : AV} (h : unA op x = some v) : (Op.unary op (x.conc ι)).run P w = .ok (v.conc ι) w ∧ zdf v = true ∧ scal v = true := by
  unfold unA at h
  split at h
  · cases h; exact ⟨by simp [Op.unary, Op.intArith, AV.conc], rfl, rfl⟩
  · cases h; exact ⟨by simp [Op.unary, Op.intBits, AV.conc], rfl, rfl⟩
  · cases h; exact ⟨by simp [Op.unary, AV.conc], rfl, rfl⟩
  · cases h
end
end Go.Ab
