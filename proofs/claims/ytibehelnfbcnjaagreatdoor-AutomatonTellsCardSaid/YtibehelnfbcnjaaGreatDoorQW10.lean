/- What the law's proof leans on, part 35. Conditions: in each statement. -/
import Derived.Test.YtibehelnfbcnjaaGreatDoorQW9
import Derived.Laws.BytesString
set_option linter.all false
set_option linter.unusedSimpArgs false
set_option linter.unusedVariables false
namespace Go.Ab
open Go Go.RowKit
section
variable {P : Program} {w0 : World} {base lo : Nat} {ι ι1 ι2 : Inj} {H H1 H2 : Heap} {w w1 w2 : World}
theorem zvn [E : Env] (s : Sim P w0 base ι H w) {dt : Option TypeId} {d x v : AV} {H' : Heap} (h : yan3 P lo H dt d x = some (v, H')) (ats : Array TypeId) (h0 : ats[0]? = dt) (ty : TypeId)
    (hd : d.OK w0 base H.next) (hx : x.OK w0 base H.next) :
    ∃ w', (Builtin.copy_ ats ty #[d.conc ι, x.conc ι]).run P w = .ok (v.conc ι) w' ∧ Post P w0 base lo ι H w ι H' w' ∧ v.OK w0 base H'.next := by
  unfold yan3 at h
  cases dt with
  | none => simp at h
  | some dt =>
  simp only [Option.bind_some] at h
  cases hu : P.underlying dt with
  | none => simp [hu] at h
  | some td =>
  cases td <;> simp only [hu] at h <;> try (cases h; done)
  rename_i e
  cases hs : za0 P e with
  | none => simp [hs] at h
  | some sz =>
  simp only [hs] at h
  cases hcs : zb5 H sz x with
  | none => simp [hcs] at h
  | some cs =>
  cases hn : zl4 H x with
  | none => simp [hcs, hn] at h
  | some n =>
  cases hm : zl4 H d with
  | none => simp [hcs, hn, hm] at h
  | some m =>
  simp only [hcs, hn, hm] at h
  split at h
  case isFalse => cases h
  rename_i hcl
  have hkn : Nat.min n m ≤ n := Nat.min_le_left n m
  obtain ⟨_, hlen, _⟩ := zig s hcs hn hcl hx
  obtain ⟨hfc, hOK⟩ := zev (m := Nat.min n m) s hcs hx (by rw [hcl]; exact Nat.mul_le_mul_right _ hkn) (.inr (.inr trivial)) (fun b e => Nat.le_trans hkn (zmh hn b e))
  split at h
  · rename_i b i m' dz
    split at h
    · rename_i hdz
      subst hdz
      simp only [zl4, Option.some.injEq] at hm
      subst hm
      obtain ⟨H1, hst, he⟩ := Option.map_eq_some_iff.1 h
      cases he
      obtain ⟨a, w', ha, hrun, hpost⟩ := zfx s hst (fun c hc => hOK c (List.mem_of_mem_take hc))
      simp only [AV.conc, Value.pointer.injEq, Option.some.injEq] at ha
      subst ha
      refine ⟨w', ?_, hpost, trivial⟩
      rw [List.map_take] at hrun
      simp [Builtin.copy_, h0, run_underlying hu, zax hs, AV.conc, hlen, hfc, hrun, goInt]
    · cases h
  · cases h
    simp only [AV.OK] at hd
    simp only [zl4, Option.some.injEq] at hm
    rw [hd.1] at hm
    simp only [List.length_nil] at hm
    subst hm
    refine ⟨w, ?_, Post.refl s, trivial⟩
    have hz : Nat.min n 0 = 0 := Nat.min_zero n
    rw [hz] at hfc
    simp [Builtin.copy_, h0, run_underlying hu, zax hs, AV.conc, hlen, hz, hfc, goInt, hd.1]
  · cases h
theorem zjh : ∀ (cs : List AV) (l : List UInt8), zd0 cs = some l → ∃ ns : List Int, cs = ns.map (AV.int .u8) ∧ l = ns.map fun n => UInt8.ofNat n.toNat
  | [], l, h => by simp only [zd0] at h; cases h; exact ⟨[], rfl, rfl⟩
  | v :: vs, l, h => by
    simp only [zd0] at h
    split at h
    · rename_i b l' hb hl
      cases h
      obtain ⟨ns, h1, h2⟩ := zjh vs l' hl
      unfold yab3 at hb
      split at hb
      · rename_i n; cases hb; exact ⟨n :: ns, by simp [h1], by simp [h2]⟩
      · cases hb
    · cases h
theorem zgx : ∀ (ns : List Int) (s : ByteArray), ns.foldl (fun r n => r.push (UInt8.ofNat n.toNat)) s = ⟨s.data ++ (ns.map fun n => UInt8.ofNat n.toNat).toArray⟩
  | [], s => by simp
  | n :: ns, s => by
    simp only [List.foldl_cons]
    rw [zgx ns]
    simp [ByteArray.push]
theorem zkw [E : Env] (s : Sim P w0 base ι H w) {x : AV} {cs : List AV} {n : Nat} {l : List UInt8} (hx : (∃ a c s l, x = .rsl a c s l) ∨ ∃ b i n s, x = .sl b i n s) (h : zb5 H 1 x = some cs) (hn : zl4 H x = some n) (hl : cs.length = n) (hb : zd0 cs = some l) (hok : x.OK w0 base H.next) :
    (Conv.bytesToString (x.conc ι)).run P w = .ok (.string ⟨l.toArray⟩) w := by
  obtain ⟨ns, h1, h2⟩ := zjh cs l hb
  have hf := (zev (m := n) s h hok (by omega) (.inl hn) (zmh hn)).1
  have hcs : (cs.take (n * 1)).map (AV.conc ι) = ns.map (Value.int .u8) := by
    rw [Nat.mul_one, ← hl, List.take_length, h1, List.map_map]; rfl
  rw [hcs] at hf
  have hfin : (.string (ns.foldl (fun r n => r.push (UInt8.ofNat n.toNat)) ByteArray.empty) : Value) = .string ⟨l.toArray⟩ := by
    rw [zgx, h2]; simp [ByteArray.empty, ByteArray.emptyWithCapacity]; try rfl
  have main : ∀ (a : Option Addr) (L C : Nat), x.conc ι = .slice a L C → L = n → (a = none → n = 0) → (Conv.bytesToString (x.conc ι)).run P w = .ok (.string ⟨l.toArray⟩) w := by
    intro a L C he hL hnone
    rw [he] at hf ⊢
    cases a with
    | none =>
      have : ns = [] := by
        have h0 := hnone rfl
        rw [h0] at hl
        have : cs = [] := List.eq_nil_of_length_eq_zero hl
        rw [h1] at this; simpa using this
      subst this
      simp only [List.map_nil] at h2
      subst h2
      simp [Conv.bytesToString]
      rfl
    | some a =>
      simp only [Builtin.firstCells, Nat.mul_one] at hf
      subst hL
      rw [run_bytesToString w a L C ns hf, hfin]
  rcases hx with ⟨a, c, q, l', rfl⟩ | ⟨b, i, m, q, rfl⟩
  · simp only [zl4, Option.some.injEq] at hn
    refine main a l'.length c rfl hn (fun ha => ?_)
    subst ha
    simp only [AV.OK] at hok
    rw [← hn, hok.1]; rfl
  · simp only [zl4, Option.some.injEq] at hn
    exact main _ m _ rfl hn (fun ha => by cases ha)
theorem zsg (a b : ByteArray) : (a == b) = (a.data.toList == b.data.toList) := by
  rw [beq_toListBytes, ByteArray.toList_eq, ByteArray.toList_eq]
theorem zrs [E : Env] {t : TypeId} {k k' : AV} {d : TypeDesc} {r : Bool} (hu : P.underlying t = some d) (hk : zbf P t k = true) (h : zcz k k' = some r) : Instr.sameNow d (k.conc ι) (k'.conc ι) = some r := by
  unfold zbf at hk
  rw [hu] at hk
  cases k <;> cases k' <;> simp only [zcz] at h <;> (try (cases h; done)) <;> cases d <;> simp at hk <;> simp only [AV.conc, Instr.sameNow]
  · exact h
  · exact h
  · rw [zsg]; exact h
theorem zsy {k k' : AV} (h : zcz k k' = some true) : k'.conc ι = k.conc ι := by
  cases k <;> cases k' <;> simp only [zcz] at h <;> (try (cases h; done))
  · simp at h; subst h; rfl
  · split at h
    · rename_i hk; simp at h; subst hk; subst h; rfl
    · cases h
  · simp only [Option.some.injEq, beq_iff_eq] at h
    simp only [AV.conc]
    rw [Go.WideShapes.bytes_inj h]
def zeg (ι : Inj) (e : AV × AV × Nat) : MapEntry := { key := e.1.conc ι, val := e.2.1.conc ι, born := e.2.2 }
theorem zf5 [E : Env] {t : TypeId} {d : TypeDesc} {k : AV} (hu : P.underlying t = some d) (hk : zbf P t k = true) : ∀ (es : List (AV × AV × Nat)) (i : Nat) (r : Option (Nat × AV × Nat)), zdk k es i = some r →
    Instr.findNow d (k.conc ι) (es.map (zeg ι)) i = some (r.map fun x => (x.1, x.2.1.conc ι)) ∧
      ∀ x, r = some x → i ≤ x.1 ∧ ∃ k', es[x.1 - i]? = some (k', x.2.1, x.2.2) ∧ k'.conc ι = k.conc ι
  | [], i, r, h => by simp only [zdk] at h; cases h; exact ⟨rfl, fun x hx => by cases hx⟩
  | (k', v, born) :: es, i, r, h => by
    simp only [zdk] at h
    cases he : zcz k k' with
    | none => simp [he] at h
    | some b =>
      have hsn := zrs (ι := ι) hu hk he
      cases b with
      | true =>
        simp only [he] at h
        cases h
        refine ⟨by simp [Instr.findNow, zeg, hsn], fun x hx => ?_⟩
        cases hx
        exact ⟨Nat.le_refl _, k', by simp, zsy he⟩
      | false =>
        simp only [he] at h
        obtain ⟨h1, h2⟩ := zf5 hu hk es (i + 1) r h
        refine ⟨by simp [Instr.findNow, zeg, hsn]; exact h1, fun x hx => ?_⟩
        obtain ⟨hle, k2, hk2, hc⟩ := h2 x hx
        refine ⟨by omega, k2, ?_, hc⟩
        rw [show x.1 - i = (x.1 - (i + 1)) + 1 by omega]
        simpa using hk2
theorem zih {t : TypeId} {k : AV} (hk : zbf P t k = true) (b : Bool) : (Instr.checkKey b 10000 t (k.conc ι)).run P w = .ok () w := by
  have e : (10000 : Nat) = 9999 + 1 := rfl
  rw [e]; generalize 9999 = n
  unfold zbf at hk
  split at hk <;> (try (cases hk; done)) <;> (rename_i hu; simp [Instr.checkKey, run_underlying hu, AV.conc])
theorem zf6 [E : Env] {t : TypeId} {k : AV} (hk : zbf P t k = true) {es : List (AV × AV × Nat)} {r : Option (Nat × AV × Nat)} (h : zdk k es 0 = some r) :
    (Instr.findKey t (k.conc ι) (zal ι es).toList).run P w = .ok (r.map fun x => (x.1, x.2.1.conc ι)) w := by
  have hd : ∃ d, P.underlying t = some d := by
    unfold zbf at hk
    cases hu : P.underlying t with
    | none => simp [hu] at hk
    | some d => exact ⟨d, rfl⟩
  obtain ⟨d, hu⟩ := hd
  have := (zf5 (ι := ι) hu hk es 0 r h).1
  have e : (zal ι es).toList = es.map (zeg ι) := by simp [zal]; intro a b c _; rfl
  simp only [Instr.findKey, Sem.run_bind, run_underlying hu, Result.andThen_ok, e, this, Sem.run_pure]
theorem zbm {b : Nat} {es : Array MapEntry} {c : Nat} (h : w.heap[b]? = some (.map es c)) : (getObj b).run P w = .ok (.map es c) w := by
  simp [getObj, Sem.run, h]
theorem zrc [E : Env] (s : Sim P w0 base ι H w) {t : TypeId} {m k v : AV} {ok : Bool} (h : znn P H t m k ok = some v) :
    (Instr.lookup t (m.conc ι) (k.conc ι) ok).run P w = .ok (v.conc ι) w ∧ v.OK w0 base H.next := by
  unfold znn at h
  cases hu : P.underlying t with
  | none => simp [hu] at h
  | some d =>
  cases d <;> simp only [hu] at h <;> try (cases h; done)
  rename_i kt et
  have key : ∀ (es : List (AV × AV × Nat)), (∀ e ∈ es, e.2.1.OK w0 base H.next) → ∀ z, zd8 P et = some z → (if zbf P kt k then match zdk k es 0 with
      | some r => let (v, is) := match r with | some (_, v, _) => (v, true) | none => (z, false); some (if ok then AV.tup [v, .bool is] else v)
      | none => none
      else none) = some v →
      (∀ b, (Instr.checkKey b 10000 kt (k.conc ι)).run P w = .ok () w) ∧ v.OK w0 base H.next ∧ ∃ r, (Instr.findKey kt (k.conc ι) (zal ι es).toList).run P w = .ok r w ∧
        ((∃ i y, r = some (i, y) ∧ v.conc ι = if ok then .tuple #[y, .bool true] else y) ∨ (r = none ∧ v.conc ι = if ok then .tuple #[z.conc ι, .bool false] else z.conc ι)) := by
    intro es hOK z hz h
    split at h
    · rename_i hk
      cases hf : zdk k es 0 with
      | none => simp [hf] at h
      | some r =>
        simp only [hf] at h
        have hfk := zf6 (ι := ι) (w := w) hk hf
        refine ⟨fun b => zih hk b, ?_⟩
        have hd : ∃ d, P.underlying kt = some d := by
          unfold zbf at hk
          cases hu : P.underlying kt with
          | none => simp [hu] at hk
          | some d => exact ⟨d, rfl⟩
        obtain ⟨dk, huk⟩ := hd
        cases r with
        | none =>
          cases h
          refine ⟨?_, _, hfk, .inr ⟨rfl, ?_⟩⟩
          · cases ok
            · exact OK.mono (Nat.zero_le _) _ (zf0 hz)
            · simp only [if_true, AV.OK, AV.OKL]
              exact ⟨OK.mono (Nat.zero_le _) _ (zf0 hz), trivial, trivial⟩
          · cases ok <;> simp [AV.conc, AV.concL]
        | some x =>
          obtain ⟨i, y, born⟩ := x
          cases h
          obtain ⟨_, k', hk', _⟩ := (zf5 (ι := ι) huk hk es 0 _ hf).2 _ rfl
          have hyOK := hOK _ (List.mem_of_getElem? hk')
          refine ⟨?_, _, hfk, .inl ⟨i, _, rfl, ?_⟩⟩
          · cases ok
            · exact hyOK
            · simp only [if_true, AV.OK, AV.OKL]
              exact ⟨hyOK, trivial, trivial⟩
          · cases ok <;> simp [AV.conc, AV.concL]
    · cases h
  cases hz : zd8 P et with
  | none => simp [hz] at h
  | some z =>
  cases m <;> simp only [hz] at h <;> try (cases h; done)
  rename_i b
  cases b with
  | none =>
    simp only [] at h
    obtain ⟨h1, h2, r, h3, h4⟩ := key [] (by simp) z hz h
    refine ⟨?_, h2⟩
    have h3' : (Instr.findKey kt (k.conc ι) []).run P w = .ok r w := by simpa [zal] using h3
    rcases h4 with ⟨i, y, rfl, h4⟩ | ⟨rfl, h4⟩
    · rw [h4]; simp [Instr.lookup, run_underlying hu, AV.conc, h1, h3']
    · rw [h4]; simp [Instr.lookup, run_underlying hu, AV.conc, h1, h3', zca hz ι]
  | some b =>
    simp only [] at h
    split at h
    · rename_i es z' e1 e2
      cases e2
      split at e1
      · rename_i es' c hb
        cases e1
        have hr := s.rel b _ hb
        simp only [BlkRel] at hr
        obtain ⟨h1, h2, r, h3, h4⟩ := key es (fun e he => (s.ok b _ hb e he).2) z hz h
        refine ⟨?_, h2⟩
        rcases h4 with ⟨i, y, rfl, h4⟩ | ⟨rfl, h4⟩
        · rw [h4]; simp [Instr.lookup, run_underlying hu, AV.conc, zbm hr, h1, h3]
        · rw [h4]; simp [Instr.lookup, run_underlying hu, AV.conc, zbm hr, h1, h3, zca hz ι]
      · cases e1
    · cases h
end
end Go.Ab
