/- What the law's proof leans on, part 7. Conditions: in each statement. -/
import Derived.Test.YtibehelnfbcnjaaGreatDoorQVB
set_option linter.all false
set_option linter.unusedSimpArgs false
set_option linter.unusedVariables false
set_option linter.unusedSectionVars false
namespace Go.Ab
open Go
section
variable [E : Env] {P : Program} {ex : ExF} {e : EV} {H : Heap}
theorem yabf {t : TypeId} {n : Option Nat} (h : zux P t = some n) (v : AV) : zv5 P H t v = ldA H n v := by
 unfold zux at h
 unfold zv5
 split at h
 ·rename_i h1 h2; cases h; simp only [h1, h2, ldA]
 ·rename_i h1; cases h; rw [h1]; simp only [ldA, ld1]; rfl
 ·cases h
theorem yabg {t : TypeId} {n : Option Nat} (h : zux P t = some n) (cs : List AV) (off : Nat) : yaah P t cs off = zer cs off n := by
 unfold zux at h
 unfold yaah
 split at h
 ·rename_i h1 h2; cases h; simp only [h1, h2, zer]
 ·rename_i h1; cases h; rw [h1]; simp only [zer]
 ·cases h
theorem zs2 {t : TypeId} {i : Nat} {f : Field} (h : zpr P t i = some f) : ∃ fs, P.underlying t = some (.struct fs) ∧ fs[i]? = some f := by
 unfold zpr at h
 split at h
 ·rename_i fs hu; exact ⟨fs, hu, h⟩
 ·cases h
theorem yafj {t : TypeId} {s : Nat} (h : zlz P t = some s) (x ix : AV) : za8 P t x ix = ixA s x ix := by
 unfold zlz at h
 split at h
 ·rename_i e hu
  cases x with
  | rsl a cap sz l => cases a <;> cases ix <;> simp only [za8, hu, h, ixA] <;> rfl
  | sl b j n sz => cases ix <;> simp only [za8, hu, h, ixA]
  | asl b o n c sz => cases ix <;> simp only [za8, hu, h, ixA]
  | _ => cases ix <;> simp only [za8, hu, ixA]
 ·cases h
theorem yap5 {t : TypeId} (h : strT P t = true) (x ix : AV) : zte P t x ix = sixA x ix := by
 unfold strT at h
 split at h
 ·rename_i hu
  cases x <;> cases ix <;> simp only [zte, hu, sixA] <;> rfl
 ·cases h
theorem yaom {t : Option TypeId} {b : Bool} (h : lenT P t = some b) (x : AV) : (zv2 P H t x).map (fun n : Nat => AV.int .i64 n) = if b then yah2 x else zzx x := by
 unfold lenT at h
 split at h
 ·rename_i hu; cases h
  cases x <;> simp only [zv2, hu, yah2, if_true, Option.map]
 ·rename_i e hu; cases h
  cases x <;> simp only [zv2, hu, zzx, Bool.false_eq_true, if_false, Option.map]
 ·cases h
theorem yan5 {a b : TypeId} {k : IntKind} (h : cvtT P a b = some k) (x : AV) : zhy P H a b x = same H (cvtA k x) := by
 unfold cvtT at h
 split at h
 ·rename_i k' h1 h2; cases h
  cases x <;> simp only [zhy, h1, h2, cvtA, same]
 ·cases h
theorem yamq {t : TypeId} {z : List AV} {ps : List (Nat × Nat)} (h : bldT P t = some (z, ps)) (parts : List (Nat × AV)) : zsl P t parts = (ze9 (fun i => ps[i]?) z parts).map .agg := by
 unfold bldT at h
 split at h
 ·rename_i z' fs h1 h2
  simp only [Option.map_eq_some_iff] at h
  obtain ⟨ps', h3, h4⟩ := h
  cases h4
  simp only [zsl, h1, h2, h3]
 ·cases h
theorem yams {t e' : TypeId} {len s : Nat} {z : List AV} (h : bslT P t len = some (e', s, z)) (parts : List (Nat × AV)) : zdd P H t len parts = bslA H e' s z len parts := by
 unfold bslT at h
 split at h
 ·rename_i e1 hu
  split at h
  ·rename_i s1 z1 h1 h2
   split at h
   ·rename_i hc; cases h
    simp only [zdd, hu, h1, h2, bslA]
    cases hp : parts.all fun p => zbo p.2.cells with
    | false => simp
    | true =>
     simp only [hc, Bool.and_true, if_true]
     rfl
   ·cases h
  ·cases h
 ·cases h
theorem yao9 {t : TypeId} {z : List AV} (h : newT P t = some z) : aop P 0 e H ⟨none, .alloc t, 0, "", #[], none⟩ = some (.ptr H.next 0, H.push (.cells t z)) := by
 unfold newT at h
 split at h
 ·rename_i z' s h1 h2
  split at h
  ·rename_i hc; cases h
   simp only [aop, h1, h2, hc, if_true]
  ·cases h
 ·cases h
theorem zzp {f : FuncId} {vs : List AV} : zky P ex 0 (.func f [] []) vs H = zji P ex 0 f vs H := by
 simp only [zky, List.nil_append, List.append_nil]
theorem yami {st xt : Option TypeId} {e' : TypeId} {n w ce : Nat} (h : appT P st xt = some (e', n, w, ce)) (s x : AV) : zmz P 0 H st xt s x = appK P H e' n w s (zb5 H ce x) (zl4 H x) := by
 unfold appT at h
 unfold zmz
 split at h
 ·rename_i e1 xd h1 h2
  split at h
  ·rename_i hs
   split at h
   ·rename_i i z h3 h4
    split at h
    ·rename_i hc
     cases h
     simp only [h1, h2, hs, Bool.not_true, Bool.false_eq_true, if_false, h3, h4]
     unfold appK
     cases zb5 H (P.cellsOf e') x with
     | none => rfl
     | some cs =>
      cases zl4 H x with
      | none => rfl
      | some k =>
       simp only [zqj, hc.1, hc.2, decide_true, Bool.true_and]
       split
       ·unfold zqk appS
        cases s with
        | rsl a _ _ _ => cases a <;> rfl
        | sl b j m sz =>
         simp only
         split
         ·rfl
         ·split
          ·cases H.get b with
           | none => rfl
           | some y =>
            cases y with
            | cells u c => simp only [Nat.zero_le, decide_true, Bool.true_and]; rfl
            | _ => rfl
          ·rfl
        | _ => rfl
       ·rfl
    ·cases h
   ·cases h
  ·cases h
 ·cases h
theorem yaoz {t e' : TypeId} {n w : Nat} {z : List AV} (h : mksT P t = some (e', n, w, z)) (l c : AV) : zea P H t l c = mksK H e' n w z l c := by
 unfold mksT at h
 split at h
 ·rename_i e1 hu
  split at h
  ·rename_i i z' h1 h2
   split at h
   ·rename_i hc
    cases h
    unfold zea mksK
    simp only [hu]
    cases l with
    | int k l =>
     cases c with
     | int k' c => cases k <;> cases k' <;> first | rfl | (simp only [h1, h2, hc, decide_true, Bool.and_true]; done) | (simp only [h1, h2, hc, decide_true, Bool.and_true]; rfl)
     | _ => cases k <;> rfl
    | _ => rfl
   ·cases h
  ·cases h
 ·cases h
theorem yala {t : TypeId} {kk : KK} (h : kkT P t = some kk) (k : AV) : zbf P t k = kfit kk k := by
 unfold kkT at h
 unfold zbf
 split at h
 all_goals (first | (rename_i hu; cases h; rw [hu]; cases k <;> rfl) | (cases h))
theorem yaov {t : TypeId} {kk : KK} {z : AV} (h : mapT P t = some (kk, z)) (m k : AV) (ok : Bool) : znn P H t m k ok = lkK kk z k ok (entO H m) := by
 unfold mapT at h
 split at h
 ·rename_i kt et hu
  split at h
  ·rename_i kk' z' h1 h2
   cases h
   unfold znn
   simp only [hu, h2]
   have key : ∀ es, (if zbf P kt k = true then (match zdk k es 0 with | some r => (let (v, is) := (match r with | some (_, v, _) => (v, true) | none => (z, false) : AV × Bool); some (if ok then .tup [v, .bool is] else v)) | none => none : Option AV) else none) = lkK kk z k ok (some es) := by
    intro es
    simp only [lkK, yala h1]
    split
    ·cases zdk k es 0 with
     | none => rfl
     | some r => cases r with
      | none => rfl
      | some p => rfl
    ·rfl
   cases m with
   | map b =>
    cases b with
    | none => exact key []
    | some b =>
     simp only [entO]
     cases H.get b with
     | none => rfl
     | some y =>
      cases y with
      | map es c => exact key es
      | _ => rfl
   | _ => rfl
  ·cases h
 ·cases h
theorem yaia {t : TypeId} {kk : KK} (h : yah9 P t = some kk) (m k v : AV) : zfr P 0 H t m k v = muK kk H m k v := by
 unfold yah9 at h
 split at h
 ·rename_i kt et hu
  unfold zfr
  simp only [hu]
  cases m with
  | map b =>
   cases b with
   | none => rfl
   | some b =>
    simp only [muK, muO]
    cases H.get b with
    | none => rfl
    | some y =>
     cases y with
     | map es clock =>
      simp only [Nat.zero_le, decide_true, Bool.true_and, yala h]
      split
      ·unfold muR; rfl
      ·rfl
     | _ => rfl
  | _ => rfl
 ·cases h
theorem yaj9 {x : Option Operand} {q : Option Q} (h : cQO x = some q) : x.map (zau e) = q.map (Q.ev e) := by
 cases x with
 | none => cases h; rfl
 | some x =>
  simp only [cQO, Option.map_eq_some_iff] at h
  obtain ⟨a, ha, rfl⟩ := h
  simp only [Option.map, zbz ha]
theorem yasv {a b : TypeId} (h : cvsT P a b = true) (x : AV) : zhy P H a b x = same H (cvsK H x) := by
 unfold cvsT at h
 split at h
 ·rename_i e1 h1 h2
  cases x <;> simp only [zhy, h1, h2, cvsK, h, if_true] <;> try rfl
  all_goals
   unfold cvsR
   simp only [zl4]
   split
   ·rename_i cs n q1 q2
    rw [q1]
    cases q2
    simp only
    split
    ·cases zd0 cs <;> rfl
    ·rfl
   ·rename_i q
    split
    ·rename_i cs n q1 q2
     exact absurd q2 (by intro q2; exact q _ _ q1 q2)
    ·rfl
 ·cases h
theorem yaxz (op : Op) : kA P ex e H (.raw op) = kA P ex e H (cK P op) := by
 cases op with
 | move x | assign x =>
  simp only [cK]
  cases h : cQ x with
  | none => rfl
  | some q => simp only [kA, opA, aop, zbz (e := e) h, zbh]
 | pick c a b =>
  simp only [cK]
  cases h1 : cQ c <;> cases h2 : cQ a <;> cases h3 : cQ b <;> try rfl
  rename_i qc qa qb
  simp only [kA, opA, aop, zbz (e := e) h1, zbz (e := e) h2, zbz (e := e) h3, zbh, zwg]
  cases hq : qc.ev e with
  | none => rfl
  | some v => cases v <;> rfl
 | alloc t =>
  simp only [cK]
  cases h : newT P t with
  | none => rfl
  | some z => simp only [kA, opA, yao9 h]
 | box t x =>
  simp only [cK]
  cases h : cQ x <;> cases h2 : za0 P t <;> try rfl
  rename_i q n
  simp only [kA, opA, aop, zbz (e := e) h, h2, boxA]
  cases q.ev e <;> rfl
 | load t a =>
  simp only [cK]
  cases h : cQ a <;> cases h2 : zux P t <;> try rfl
  simp only [kA, opA, aop, zbz (e := e) h, yabf h2, zbh]
 | store t a x =>
  simp only [cK]
  cases h : cQ a <;> cases h2 : cQ x <;> cases h3 : za0 P t <;> try rfl
  simp only [kA, opA, aop, zbz (e := e) h, zbz (e := e) h2, yafs, h3, stA, yaey]
 | nilCheck x =>
  simp only [cK]
  cases h : cQ x with
  | none => rfl
  | some q =>
   simp only [kA, opA, aop, zbz (e := e) h]
   cases q.ev e with
   | none => rfl
   | some v => cases v <;> rfl
 | binOp o t x y u =>
  simp only [cK]
  cases h : cQ x <;> cases h2 : cQ y <;> try rfl
  simp only [kA, opA, aop, zbz (e := e) h, zbz (e := e) h2, zbh]
 | unOp o t x =>
  simp only [cK]
  cases h : cQ x with
  | none => rfl
  | some q => simp only [kA, opA, aop, zbz (e := e) h, zbh]
 | fieldAddr t x i =>
  simp only [cK]
  cases h : cQ x <;> cases h2 : zpr P t i <;> try rfl
  rename_i q f
  simp only
  cases h3 : za0 P f.type with
  | none => rfl
  | some s =>
   simp only
   by_cases h0 : s = 0
   ·simp only [h0, if_true]
   ·simp only [h0, if_false]
    obtain ⟨fs, hu, hf⟩ := zs2 h2
    simp only [kA, opA, aop, zbz (e := e) h, zbh, zhz, hu, hf, h3, h0, if_false]
    cases q.ev e with
    | none => rfl
    | some v => cases v <;> rfl
 | field t x i =>
  simp only [cK]
  cases h : cQ x <;> cases h2 : zpr P t i <;> try rfl
  rename_i q f
  simp only
  cases h3 : zux P f.type with
  | none => rfl
  | some n =>
   obtain ⟨fs, hu, hf⟩ := zs2 h2
   simp only [kA, opA, aop, zbz (e := e) h, zbh]
   cases hq : q.ev e with
   | none => rfl
   | some v => cases v <;> simp only [Option.bind, zxw, hu, hf, yabg h3, fldA]
 | indexAddr t x i =>
  simp only [cK]
  cases h : cQ x <;> cases h2 : cQ i <;> cases h3 : zlz P t <;> try rfl
  simp only [kA, opA, aop, zbz (e := e) h, zbz (e := e) h2, zbh, yafj h3]
 | index t x i =>
  simp only [cK]
  cases h : cQ x <;> cases h2 : cQ i <;> cases h3 : strT P t <;> try rfl
  simp only [kA, opA, aop, zbz (e := e) h, zbz (e := e) h2, zbh, yap5 h3]
 | extract x i =>
  simp only [cK]
  cases h : cQ x with
  | none => rfl
  | some q =>
   simp only [kA, opA, aop, zbz (e := e) h]
   cases q.ev e with
   | none => rfl
   | some v =>
    cases v <;> try rfl
    simp only [Option.bind, extA, zbh]
 | convert a b x =>
  simp only [cK]
  cases h : cQ x <;> cases h2 : cvtT P a b <;> try rfl
  ·simp only
   split
   ·rename_i hc; simp only [kA, opA, aop, zbz (e := e) h, yasv hc]
   ·rfl
  ·simp only [kA, opA, aop, zbz (e := e) h, yan5 h2]
 | makeSlice t l c =>
  simp only [cK]
  cases h1 : cQ l <;> cases h2 : cQ c <;> cases h3 : mksT P t <;> try rfl
  rename_i ql qc r
  obtain ⟨e', n, w, z⟩ := r
  simp only [kA, opA, aop, zbz (e := e) h1, zbz (e := e) h2, yaoz h3]
 | makeMap t x =>
  cases x with
  | none => rfl
  | some x =>
   simp only [cK]
   cases h1 : cQ x <;> cases h2 : yadj P t <;> try rfl
   rename_i q
   simp only [kA, opA, aop, zbz (e := e) h1]
   unfold yadj at h2
   split at h2
   ·rename_i hu
    rw [hu]
    cases q.ev e with
    | none => rfl
    | some v => cases v <;> rfl
   ·cases h2
 | lookup t m k ok =>
  simp only [cK]
  cases h1 : cQ m <;> cases h2 : cQ k <;> cases h3 : mapT P t <;> try rfl
  rename_i qm qk r
  obtain ⟨kk, z⟩ := r
  simp only [kA, opA, aop, zbz (e := e) h1, zbz (e := e) h2, yaov h3, zbh]
 | mapUpdate t m k x | insert t m k x =>
  simp only [cK]
  cases h1 : cQ m <;> cases h2 : cQ k <;> cases h4 : cQ x <;> cases h3 : yah9 P t <;> try rfl
  simp only [kA, opA, aop, zbz (e := e) h1, zbz (e := e) h2, zbz (e := e) h4, yaia h3, yaey]
 | slice t x lo hi mx =>
  cases mx with
  | some m => rfl
  | none =>
   simp only [cK]
   cases h1 : cQ x with
   | none => rfl
   | some qx =>
   cases h2 : cQO lo with
   | none => rfl
   | some ql =>
   cases h3 : cQO hi with
   | none => rfl
   | some qh =>
   have key : ∀ (g : AV → Option AV → Option AV → Option AV), (zau e x).bind (fun x => (match lo.map (zau e), hi.map (zau e) with | some none, _ | _, some none => none | l, h => (g x (l.bind id) (h.bind id)).map fun v => (v, H))) = (qx.ev e).bind fun x => (evO e ql).bind fun l => (evO e qh).bind fun h => same H (g x l h) := by
    intro g
    rw [zbz h1, yaj9 h2, yaj9 h3]
    cases qx.ev e with
    | none => rfl
    | some v =>
     cases ql with
     | none =>
      cases qh with
      | none => exact zbh
      | some qh =>
       simp only [Option.map, evO]
       cases qh.ev e with
       | none => rfl
       | some y => exact zbh
     | some ql =>
      simp only [Option.map, evO]
      cases ql.ev e with
      | none => cases qh <;> rfl
      | some l =>
       cases qh with
       | none => exact zbh
       | some qh =>
        simp only [Option.map]
        cases qh.ev e with
        | none => rfl
        | some y => exact zbh
   cases hu : P.underlying t with
   | none => rfl
   | some d =>
    cases d with
    | string =>
     simp only [kA]
     rw [← key fun x l h => sslK x l h]
     have e1 : ∀ x l h, zda P H t x l h = sslK x l h := fun x l h => by
      cases x <;> simp only [zda, hu, sslK] <;> rfl
     simp only [opA, aop, e1]
     rfl
    | slice et =>
     simp only
     cases hs : za0 P et with
     | none => rfl
     | some n =>
      simp only [kA]
      rw [← key fun x l h => slcK P H n x l h]
      have e1 : ∀ x l h, zda P H t x l h = slcK P H n x l h := fun x l h => by
       cases x with
       | rsl a cap sz xs =>
        simp only [zda, hu, slcK, hs]
        cases zba 0 l <;> cases zba xs.length h <;> rfl
       | sl b i m sz =>
        simp only [zda, hu, slcK, hs]
        cases zba 0 l <;> cases zba m h <;> rfl
       | asl b o m cap sz =>
        simp only [zda, hu, slcK, hs]
        cases zba 0 l <;> cases zba m h <;> rfl
       | _ => simp only [zda, hu, slcK]
      simp only [opA, aop, e1]
      rfl
    | _ => rfl
 | makeFunc f first cap =>
  cases f with
  | func f =>
   simp only [cK]
   cases h : cQL first.toList <;> cases h2 : cQL cap.toList <;> try rfl
   simp only [kA, opA, aop, zlh (e := e) h, zlh (e := e) h2]
  | _ => rfl
 | build t parts =>
  simp only [cK]
  cases h : cQP parts.toList <;> cases h2 : bldT P t <;> try rfl
  rename_i ps r
  obtain ⟨z, pl⟩ := r
  simp only [kA, opA, aop, yab6 (e := e) h, zbh, yamq h2]
 | buildSlice t len parts =>
  simp only [cK]
  cases h : cQP parts.toList <;> cases h2 : bslT P t len <;> try rfl
  rename_i ps r
  obtain ⟨e', s, z⟩ := r
  simp only [kA, opA, aop, yab6 (e := e) h, yams h2]
 | call c =>
  obtain ⟨callee, args, ts⟩ := c
  cases callee with
  | value f =>
   cases f with
   | func f =>
    simp only [cK]
    cases h : cQL args.toList with
    | none => rfl
    | some l => simp only [kA, opA, zau, zlh (e := e) h, Option.bind, zzp]
   | tmp t =>
    simp only [cK]
    cases h2 : cQL args.toList with
    | none => rfl
    | some l => simp only [kA, cQ, opA, zau, zlh (e := e) h2]; rfl
   | const v =>
    simp only [cK]
    cases h1 : cQ (.const v) <;> cases h2 : cQL args.toList <;> try rfl
    simp only [kA, opA, zbz (e := e) h1, zlh (e := e) h2]
   | global g => rfl
  | builtin b =>
   cases b with
   | len =>
    simp only [cK]
    cases ha : args.toList with
    | nil => rfl
    | cons x l =>
     cases l with
     | cons y l => rfl
     | nil =>
      simp only
      cases h1 : cQ x <;> cases h2 : lenT P ts[0]? <;> try rfl
      rename_i q b
      simp only [kA, opA, aop, ha, zjo, zbz (e := e) h1]
      cases hq : q.ev e <;> cases b <;> simp only [kA, Option.bind, yaom h2, zbh, if_true, Bool.false_eq_true, if_false, hq]
   | append =>
    simp only [cK]
    cases ha : args.toList with
    | nil => rfl
    | cons s l =>
     cases l with
     | nil => rfl
     | cons x l =>
      cases l with
      | cons y l => rfl
      | nil =>
       simp only
       cases h1 : cQ s <;> cases h2 : cQ x <;> cases h3 : appT P ts[0]? ts[1]? <;> try rfl
       rename_i qs qx r
       obtain ⟨e', n, w, ce⟩ := r
       simp only [kA, opA, aop, ha, zjo, zbz (e := e) h1, zbz (e := e) h2]
       cases hs : qs.ev e <;> cases hx : qx.ev e <;> simp only [Option.bind, yami h3]
   | max =>
    simp only [cK]
    cases ha : args.toList with
    | nil => rfl
    | cons x l =>
     simp only
     cases h1 : cQ x <;> cases h2 : cQL l <;> try rfl
     rename_i q ql
     simp only [kA, opA, aop, ha, zjo, zbz (e := e) h1, zlh (e := e) h2]
     cases q.ev e <;> cases evQ e ql <;> simp only [Option.bind, zbh]
   | min =>
    simp only [cK]
    cases ha : args.toList with
    | nil => rfl
    | cons x l =>
     simp only
     cases h1 : cQ x <;> cases h2 : cQL l <;> try rfl
     rename_i q ql
     simp only [kA, opA, aop, ha, zjo, zbz (e := e) h1, zlh (e := e) h2]
     cases q.ev e <;> cases evQ e ql <;> simp only [Option.bind, zbh]
   | _ => rfl
  | invoke r m => rfl
 | _ => rfl
theorem yauk {o : Oper} : opA P ex 0 e H o = kA P ex e H (cK P o.op) := by rw [yapi, yaxz]
end
end Go.Ab
