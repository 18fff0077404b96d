/- What the law's proof leans on, part 29. Conditions: in each statement. -/
import Derived.Test.YtibehelnfbcnjaaGreatDoorQV3
import Derived.WalkKit
import Derived.Laws.CopyRow
import Derived.Laws.Append
import Derived.Laws.Rows
set_option linter.all false
set_option linter.unusedSimpArgs false
set_option linter.unusedVariables false
namespace Go.Ab
open Go Go.RowKit
theorem zaz (ι : Inj) : ∀ l : List AV, AV.concL ι l = l.map (AV.conc ι)
  | [] => rfl
  | v :: vs => by simp [AV.concL, zaz ι vs]
theorem yae4 : ∀ l : List AV, AV.rfL l = true ↔ ∀ v ∈ l, v.rf = true
  | [] => by simp [AV.rfL]
  | v :: vs => by simp [AV.rfL, yae4 vs]
theorem zar (w0 : World) (base n : Nat) : ∀ l : List AV, AV.OKL w0 base n l ↔ ∀ v ∈ l, v.OK w0 base n
  | [] => by simp [AV.OKL]
  | v :: vs => by simp [AV.OKL, zar w0 base n vs]
mutual
theorem OK.mono {w0 : World} {base n m : Nat} (h : n ≤ m) : ∀ v : AV, v.OK w0 base n → v.OK w0 base m
  | .bool _, _ | .int _ _, _ | .str _, _ | .nilp, _ | .nilf, _ | .nili, _ | .map none, _ => trivial
  | .ptr b _, k | .sl b _ _ _, k | .asl b _ _ _ _, k | .map (some b), k | .yieldf b, k => by simp only [AV.OK] at k ⊢; omega
  | .rptr _ _, k | .rsl none _ _ _, k | .rsl (some _) _ _ _, k => by simp only [AV.OK] at k ⊢; exact k
  | .func _ a b, k => by simp only [AV.OK] at k ⊢; exact ⟨OKL.mono h a k.1, OKL.mono h b k.2⟩
  | .iface _ v, k => by simp only [AV.OK] at k ⊢; exact OK.mono h v k
  | .agg l, k | .tup l, k => by simp only [AV.OK] at k ⊢; exact OKL.mono h l k
theorem OKL.mono {w0 : World} {base n m : Nat} (h : n ≤ m) : ∀ l : List AV, AV.OKL w0 base n l → AV.OKL w0 base m l
  | [], _ => trivial
  | v :: vs, k => by simp only [AV.OKL] at k ⊢; exact ⟨OK.mono h v k.1, OKL.mono h vs k.2⟩
end
mutual
theorem OK.rf {w0 : World} {base n : Nat} : ∀ v : AV, v.rf = true → v.OK w0 base n → v.OK w0 base 0
  | .bool _, _, _ | .int _ _, _, _ | .str _, _, _ | .nilp, _, _ | .nilf, _, _ | .nili, _, _ | .map none, _, _ => trivial
  | .ptr _ _, h, _ | .sl _ _ _ _, h, _ | .asl _ _ _ _ _, h, _ | .map (some _), h, _ | .yieldf _, h, _ => by simp [AV.rf] at h
  | .rptr _ _, _, k | .rsl none _ _ _, _, k | .rsl (some _) _ _ _, _, k => by simp only [AV.OK] at k ⊢; exact k
  | .func _ a b, h, k => by
    simp only [AV.rf, Bool.and_eq_true] at h; simp only [AV.OK] at k ⊢; exact ⟨OKL.rf a h.1 k.1, OKL.rf b h.2 k.2⟩
  | .iface _ v, h, k => by simp only [AV.rf] at h; simp only [AV.OK] at k ⊢; exact OK.rf v h k
  | .agg l, h, k | .tup l, h, k => by simp only [AV.rf] at h; simp only [AV.OK] at k ⊢; exact OKL.rf l h k
theorem OKL.rf {w0 : World} {base n : Nat} : ∀ l : List AV, AV.rfL l = true → AV.OKL w0 base n l → AV.OKL w0 base 0 l
  | [], _, _ => trivial
  | v :: vs, h, k => by
    simp only [AV.rfL, Bool.and_eq_true] at h; simp only [AV.OKL] at k ⊢; exact ⟨OK.rf v h.1 k.1, OKL.rf vs h.2 k.2⟩
end
mutual
theorem zeu {w0 : World} {base n : Nat} {ι ι' : Inj} (h : ∀ b, b < n → ι' b = ι b) : ∀ v : AV, v.OK w0 base n → v.conc ι' = v.conc ι
  | .bool _, _ | .int _ _, _ | .str _, _ | .nilp, _ | .nilf, _ | .nili, _ | .map none, _ => rfl
  | .ptr b _, k => by simp only [AV.OK] at k; simp [AV.conc, h b k]
  | .sl b _ _ _, k => by simp only [AV.OK] at k; simp [AV.conc, h b k]
  | .asl b _ _ _ _, k => by simp only [AV.OK] at k; simp [AV.conc, h b k]
  | .map (some b), k => by simp only [AV.OK] at k; simp [AV.conc, h b k]
  | .yieldf b, k => by simp only [AV.OK] at k; simp [AV.conc, h b k]
  | .rptr _ _, _ | .rsl _ _ _ _, _ => rfl
  | .func _ a b, k => by simp only [AV.OK] at k; simp only [AV.conc, zgu h a k.1, zgu h b k.2]
  | .iface _ v, k => by simp only [AV.OK] at k; simp only [AV.conc, zeu h v k]
  | .agg l, k | .tup l, k => by simp only [AV.OK] at k; simp only [AV.conc, zgu h l k]
theorem zgu {w0 : World} {base n : Nat} {ι ι' : Inj} (h : ∀ b, b < n → ι' b = ι b) : ∀ l : List AV, AV.OKL w0 base n l → AV.concL ι' l = AV.concL ι l
  | [], _ => rfl
  | v :: vs, k => by simp only [AV.OKL] at k; simp only [AV.concL, zeu h v k.1, zgu h vs k.2]
end
theorem zlp [E : Env] {w0 : World} {base n : Nat} {ι ι' : Inj} (h : ∀ b, b < n → ι' b = ι b) {l : List AV} (k : ∀ v ∈ l, v.OK w0 base n) : l.map (AV.conc ι') = l.map (AV.conc ι) := by
  rw [← zaz, ← zaz]; exact zgu h l ((zar ..).2 k)
theorem zlo {ι : Inj} {v : AV} (h : zdf v = true) : (v.conc ι).oneCell' = true := by
  cases v with
  | map b => cases b <;> rfl
  | agg _ => simp [zdf] at h
  | tup _ => simp [zdf] at h
  | _ => rfl
theorem zqp {v : AV} (h : zdf v = true) : v.cells = [v] := by cases v <;> first | rfl | simp [zdf] at h
theorem zhx [E : Env] (ι : Inj) (v : AV) : (v.conc ι).cells.toList = v.cells.map (AV.conc ι) := by
  cases v with
  | map b => cases b <;> simp [AV.conc, Value.cells, AV.cells]
  | agg l => simp [AV.conc, Value.cells, AV.cells, zaz]
  | _ => simp [AV.conc, Value.cells, AV.cells]
theorem zh9 [E : Env] (ι : Inj) (v : AV) : (v.conc ι).cells.size = v.cells.length := by
  have := congrArg List.length (zhx ι v); simpa using this
theorem zee [E : Env] (ι : Inj) (v : AV) : (v.conc ι).cells = (v.cells.map (AV.conc ι)).toArray := by
  rw [← zhx]
theorem zdy [E : Env] {w0 : World} {base n : Nat} {v : AV} (h : v.OK w0 base n) : ∀ c ∈ v.cells, c.OK w0 base n := by
  cases v with
  | agg l => simp only [AV.OK] at h; exact (zar ..).1 h
  | _ => simpa [AV.cells] using h
theorem znw (ι : Inj) {v : Value} {a : AV} (h : zls v = some a) : a.conc ι = v := by
  unfold zls at h
  split at h <;> first | (cases h; rfl) | (cases h)
theorem zty {w0 : World} {base : Nat} {v : Value} {a : AV} (h : zls v = some a) : a.OK w0 base 0 := by
  unfold zls at h
  split at h <;> first | (cases h; simp [AV.OK]) | (cases h)
theorem yapd {v : Value} {a : AV} (h : zls v = some a) : zdf a = true := by
  unfold zls at h
  split at h <;> first | (cases h; rfl) | (cases h)
theorem zlt [E : Env] (ι : Inj) : ∀ {vs : List Value} {l : List AV}, zk3 vs = some l → l.map (AV.conc ι) = vs
  | [], l, h => by cases h; rfl
  | v :: vs, l, h => by
    simp only [zk3] at h
    split at h
    · rename_i a l' ha hl; cases h; simp [znw ι ha, zlt ι hl]
    · cases h
theorem zp1 [E : Env] {w0 : World} {base : Nat} : ∀ {vs : List Value} {l : List AV}, zk3 vs = some l → ∀ a ∈ l, a.OK w0 base 0
  | [], l, h => by cases h; simp
  | v :: vs, l, h => by
    simp only [zk3] at h
    split at h
    · rename_i a l' ha hl; cases h
      intro x hx
      rcases List.mem_cons.1 hx with rfl | hx
      · exact zty ha
      · exact zp1 hl x hx
    · cases h
theorem zk4 [E : Env] (ι : Inj) {v : Value} {a : AV} (h : ztz v = some a) : a.conc ι = v := by
  cases v with
  | agg cs =>
    simp only [ztz, Option.map_eq_some_iff] at h
    obtain ⟨l, hl, rfl⟩ := h
    simp [AV.conc, zaz, zlt ι hl]
  | _ => exact znw ι h
theorem zrh [E : Env] {w0 : World} {base : Nat} {v : Value} {a : AV} (h : ztz v = some a) : a.OK w0 base 0 := by
  cases v with
  | agg cs =>
    simp only [ztz, Option.map_eq_some_iff] at h
    obtain ⟨l, hl, rfl⟩ := h
    simp only [AV.OK]; exact (zar ..).2 (zp1 hl)
  | _ => (unfold ztz at h; exact zty h)
def BlkOK (w0 : World) (base n : Nat) : Blk → Prop
  | .cells _ c => ∀ v ∈ c, v.OK w0 base n
  | .map es _ => ∀ e ∈ es, e.1.OK w0 base n ∧ e.2.1.OK w0 base n
  | .iter _ _ => True
  | .loop _ _ _ tmps _ _ _ d => (∀ v ∈ vals tmps.s, v.OK w0 base n) ∧ d < n
  | .dfr => True
def zal (ι : Inj) (es : List (AV × AV × Nat)) : Array MapEntry := (es.map fun e => ({ key := e.1.conc ι, val := e.2.1.conc ι, born := e.2.2 } : MapEntry)).toArray
theorem zga : ∀ {s : List (Nat × AV)} {t : Nat} {v : AV}, zbb s t = some v → v ∈ vals s
  | [], _, _, h => by cases h
  | (k, x) :: s, t, v, h => by
    simp only [zbb] at h
    split at h
    · cases h; simp [vals]
    · exact List.mem_cons_of_mem _ (zga h)
def TR (ι : Inj) (e : EV) (tv : Array Value) : Prop := e.n = tv.size ∧ ∀ t v, e.look t = some v → tv[t]? = some (v.conc ι)
theorem TR.ext {w0 : World} {base n : Nat} {ι ι' : Inj} (h : ∀ b, b < n → ι' b = ι b) {e : EV} {tv : Array Value} (r : TR ι e tv) (k : ∀ v ∈ vals e.s, v.OK w0 base n) : TR ι' e tv :=
  ⟨r.1, fun t v hv => by rw [r.2 t v hv, zeu h v (k v (zga hv))]⟩
def BlkRel (P : Program) (ι : Inj) (cap : Nat) (o : Option Obj) : Blk → Prop
  | .cells t cs => ∃ c : Array Value, o = some (.cells c t (0, 0)) ∧ (∃ rest, c.toList = cs.map (AV.conc ι) ++ rest) ∧ c.size = cap * P.cellsOf t
  | .map es clock => o = some (.map (zal ι es) clock)
  | .iter s p => o = some (.stringIter s p)
  | .loop st pend fn tmps params assign body d =>
    ∃ tv, TR ι tmps tv ∧ o = some (.loop { state := st, pending := pend, fn, tmps := tv, params := params.toArray, assign, body, defers := (ι d).1 })
  | .dfr => o = some (.deferred (some []))
def zlg [E : Env] (w0 : World) (base : Nat) : Prop := ∀ g v, E.glob g = some v → v.OK w0 base 0 ∧ ∀ ι, v.conc ι = .pointer (some ⟨g, 0, none⟩)
structure Sim [E : Env] (P : Program) (w0 : World) (base : Nat) (ι : Inj) (H : Heap) (w : World) : Prop where
  below : Below base w0 w
  hb : base ≤ w0.heap.size
  gl : zlg w0 base
  inj : ∀ b b' x x', H.get b = some x → H.get b' = some x' → (ι b).1 = (ι b').1 → b = b'
  lt : ∀ b x, H.get b = some x → b < H.next
  lo : ∀ b x, H.get b = some x → base ≤ (ι b).1
  ok : ∀ b x, H.get b = some x → BlkOK w0 base H.next x
  rel : ∀ b x, H.get b = some x → BlkRel P ι (ι b).2 w.heap[(ι b).1]? x
theorem BlkOK.mono [E : Env] {w0 : World} {base n m : Nat} (h : n ≤ m) {x : Blk} (k : BlkOK w0 base n x) : BlkOK w0 base m x := by
  cases x with
  | cells t c => exact fun v hv => OK.mono h v (k v hv)
  | map es c => exact fun e he => ⟨OK.mono h _ (k e he).1, OK.mono h _ (k e he).2⟩
  | loop st pend fn tmps params assign body d => exact ⟨fun v hv => OK.mono h v (k.1 v hv), Nat.lt_of_lt_of_le k.2 h⟩
  | _ => trivial
theorem BlkRel.ext [E : Env] {P : Program} {w0 : World} {base n : Nat} {ι ι' : Inj} (h : ∀ b, b < n → ι' b = ι b) {x : Blk} (k : BlkOK w0 base n x) {cap : Nat} {o : Option Obj}
    (r : BlkRel P ι cap o x) : BlkRel P ι' cap o x := by
  cases x with
  | cells t cs =>
    obtain ⟨c, ho, ⟨rest, hr⟩, hs⟩ := r
    exact ⟨c, ho, ⟨rest, by rw [hr, zlp h k]⟩, hs⟩
  | map es c =>
    simp only [BlkRel, zal] at r ⊢
    rw [r]
    congr 2
    refine congrArg List.toArray (List.map_congr_left fun e he => ?_)
    rw [zeu h _ (k e he).1, zeu h _ (k e he).2]
  | iter s p => exact r
  | loop st pend fn tmps params assign body d =>
    obtain ⟨tv, h1, h2⟩ := r
    exact ⟨tv, h1.ext h k.1, by rw [h2, h d k.2]⟩
  | dfr => exact r
structure Post [E : Env] (P : Program) (w0 : World) (base lo : Nat) (ι : Inj) (H : Heap) (w : World) (ι' : Inj) (H' : Heap) (w' : World) : Prop where
  sim : Sim P w0 base ι' H' w'
  ext : ∀ b, b < H.next → ι' b = ι b
  next : H.next ≤ H'.next
  keep : ∀ b, b < lo → H'.get b = H.get b
  alive : ∀ b x, b < H.next → H'.get b = some x → ∃ y, H.get b = some y
  size : w.heap.size ≤ w'.heap.size
  frame : ∀ r, r < w.heap.size → (∀ b x, H.get b = some x → lo ≤ b → (ι b).1 ≠ r) → w'.heap[r]? = w.heap[r]?
  newr : ∀ b x, H'.get b = some x → H.next ≤ b → w.heap.size ≤ (ι' b).1 ∨ ∃ b0 x0, H.get b0 = some x0 ∧ lo ≤ b0 ∧ (ι' b).1 = (ι b0).1
section
variable {P : Program} {w0 : World} {base lo : Nat} {ι ι1 ι2 : Inj} {H H1 H2 : Heap} {w w1 w2 : World}
theorem Post.refl [E : Env] (s : Sim P w0 base ι H w) : Post P w0 base lo ι H w ι H w :=
  ⟨s, fun _ _ => rfl, Nat.le_refl _, fun _ _ => rfl, fun b x _ h => ⟨x, h⟩, Nat.le_refl _, fun _ _ _ => rfl, fun b x h hb => absurd (s.lt b x h) (by omega)⟩
theorem Post.trans [E : Env] (a : Post P w0 base lo ι H w ι1 H1 w1) (b : Post P w0 base lo ι1 H1 w1 ι2 H2 w2) : Post P w0 base lo ι H w ι2 H2 w2 where
  sim := b.sim
  ext := fun c hc => (b.ext c (Nat.lt_of_lt_of_le hc a.next)).trans (a.ext c hc)
  next := Nat.le_trans a.next b.next
  keep := fun c hc => (b.keep c hc).trans (a.keep c hc)
  alive := fun c x hc h => by
    obtain ⟨y, hy⟩ := b.alive c x (Nat.lt_of_lt_of_le hc a.next) h
    exact a.alive c y hc hy
  size := Nat.le_trans a.size b.size
  frame := fun r hr hne => by
    refine (b.frame r (Nat.lt_of_lt_of_le hr a.size) fun c x hc hlo => ?_).trans (a.frame r hr hne)
    by_cases hn : c < H.next
    · obtain ⟨y, hy⟩ := a.alive c x hn hc
      rw [a.ext c hn]; exact hne c y hy hlo
    · rcases a.newr c x hc (by omega) with h | ⟨b0, x0, h0, hl0, he⟩
      · omega
      · rw [he]; exact hne b0 x0 h0 hl0
  newr := fun c x hc hn => by
    by_cases h1 : c < H1.next
    · obtain ⟨y, hy⟩ := b.alive c x h1 hc
      rw [b.ext c h1]
      exact a.newr c y hy hn
    · rcases b.newr c x hc (by omega) with h | ⟨b0, x0, h0, hl0, he⟩
      · exact .inl (Nat.le_trans a.size h)
      · by_cases h2 : b0 < H.next
        · obtain ⟨y, hy⟩ := a.alive b0 x0 h2 h0
          exact .inr ⟨b0, y, hy, hl0, he.trans (congrArg Prod.fst (a.ext b0 h2))⟩
        · rw [he]; exact a.newr b0 x0 h0 (by omega)
theorem Post.mono [E : Env] {lo' : Nat} (a : Post P w0 base lo ι H w ι1 H1 w1) (h : lo' ≤ lo) : Post P w0 base lo' ι H w ι1 H1 w1 :=
  { a with
    keep := fun c hc => a.keep c (by omega)
    frame := fun r hr hne => a.frame r hr fun b x hb hl => hne b x hb (by omega)
    newr := fun b x hb hn => (a.newr b x hb hn).imp id fun ⟨b0, x0, h0, hl, he⟩ => ⟨b0, x0, h0, by omega, he⟩ }
theorem Sim.blt [E : Env] (s : Sim P w0 base ι H w) {b : Nat} {x : Blk} (h : H.get b = some x) : (ι b).1 < w.heap.size := by
  have r := s.rel b x h
  have : ∃ o, w.heap[(ι b).1]? = some o := by
    cases x with
    | cells t cs => obtain ⟨c, ho, _⟩ := r; exact ⟨_, ho⟩
    | loop st pend fn tmps params assign body d => obtain ⟨tv, _, ho⟩ := r; exact ⟨_, ho⟩
    | _ => exact ⟨_, r⟩
  obtain ⟨o, ho⟩ := this
  exact (Array.getElem?_eq_some_iff.1 ho).1
theorem Sim.drawn [E : Env] (s : Sim P w0 base ι H w) (n : Nat) : Sim P w0 base ι H { w with drawn := n } :=
  { s with below := ⟨s.below.os, s.below.tape, s.below.output, s.below.size, s.below.block⟩ }
theorem Post.drawn [E : Env] (a : Post P w0 base lo ι H w ι1 H1 w1) (n : Nat) : Post P w0 base lo ι H w ι1 H1 { w1 with drawn := n } :=
  { a with sim := a.sim.drawn n }
theorem Post.drawn0 [E : Env] {n : Nat} (a : Post P w0 base lo ι H { w with drawn := n } ι1 H1 w1) : Post P w0 base lo ι H w ι1 H1 w1 :=
  ⟨a.sim, a.ext, a.next, a.keep, a.alive, a.size, a.frame, a.newr⟩
def Inj.put (ι : Inj) (b r cap : Nat) : Inj := fun c => if c = b then (r, cap) else ι c
@[simp] theorem Inj.put_same (ι : Inj) (b r cap : Nat) : ι.put b r cap b = (r, cap) := by simp [Inj.put]
theorem Inj.put_ne (ι : Inj) {b c : Nat} (r cap : Nat) (h : c ≠ b) : ι.put b r cap c = ι c := by simp [Inj.put, h]
theorem Inj.put_lt [E : Env] (ι : Inj) {n c : Nat} (r cap : Nat) (h : c < n) : ι.put n r cap c = ι c := Inj.put_ne ι r cap (by omega)
theorem Post.alloc [E : Env] (s : Sim P w0 base ι H w) (x : Blk) (o : Obj) (cap : Nat) (hok : BlkOK w0 base H.next x) (hrel : BlkRel P ι cap (some o) x) (hlo : lo ≤ H.next) :
    Post P w0 base lo ι H w (ι.put H.next w.heap.size cap) (H.push x) (w.alloc o) := by
  have hext : ∀ b, b < H.next → ι.put H.next w.heap.size cap b = ι b := fun b h => Inj.put_lt ι _ _ h
  have hget : ∀ b y, (H.push x).get b = some y → (b = H.next ∧ y = x) ∨ (b < H.next ∧ H.get b = some y) := fun b y h => by
    rw [Heap.get_push] at h
    by_cases e : b = H.next
    · subst e; simp at h; exact .inl ⟨rfl, h.symm⟩
    · rw [if_neg e] at h; exact .inr ⟨s.lt b y h, h⟩
  have hsz : (w.alloc o).heap.size = w.heap.size + 1 := by simp
  refine ⟨⟨?_, s.hb, s.gl, ?_, ?_, ?_, ?_, ?_⟩, hext, by simp, ?_, ?_, by omega, ?_, ?_⟩
  · exact s.below.alloc (Nat.le_trans s.hb s.below.size) o
  · intro b b' y y' h h' e
    rcases hget b y h with ⟨rfl, rfl⟩ | ⟨hb, hy⟩ <;> rcases hget b' y' h' with ⟨rfl, rfl⟩ | ⟨hb', hy'⟩
    · rfl
    · rw [hext b' hb', Inj.put_same] at e; have := s.blt hy'; simp at e; omega
    · rw [hext b hb, Inj.put_same] at e; have := s.blt hy; simp at e; omega
    · rw [hext b hb, hext b' hb'] at e; exact s.inj b b' y y' hy hy' e
  · intro b y h
    rcases hget b y h with ⟨rfl, rfl⟩ | ⟨hb, hy⟩ <;> simp <;> omega
  · intro b y h
    rcases hget b y h with ⟨rfl, rfl⟩ | ⟨hb, hy⟩
    · simp; exact Nat.le_trans s.hb s.below.size
    · rw [hext b hb]; exact s.lo b y hy
  · intro b y h
    rcases hget b y h with ⟨rfl, rfl⟩ | ⟨hb, hy⟩
    · exact hok.mono (by simp)
    · exact (s.ok b y hy).mono (by simp)
  · intro b y h
    rcases hget b y h with ⟨rfl, rfl⟩ | ⟨hb, hy⟩
    · rw [Inj.put_same]
      rw [heap_alloc_new]
      exact BlkRel.ext hext hok hrel
    · rw [hext b hb, Below.heap_alloc w o _ (s.blt hy)]
      exact BlkRel.ext hext (s.ok b y hy) (s.rel b y hy)
  · intro b hb; rw [Heap.get_push, if_neg (by omega)]
  · intro b y hb h
    rcases hget b y h with ⟨rfl, rfl⟩ | ⟨_, hy⟩
    · omega
    · exact ⟨y, hy⟩
  · intro r hr _; exact Below.heap_alloc w o r hr
  · intro b y h hb
    rcases hget b y h with ⟨rfl, rfl⟩ | ⟨hb', hy⟩
    · exact .inl (by simp)
    · omega
theorem Post.put [E : Env] (s : Sim P w0 base ι H w) {b : Nat} {x : Blk} (hx : H.get b = some x) (y : Blk) (w1 : World) (hlo : lo ≤ b)
    (hw : w1.os = w.os ∧ w1.tape = w.tape ∧ w1.output = w.output ∧ w1.heap.size = w.heap.size) (hother : ∀ r, r ≠ (ι b).1 → w1.heap[r]? = w.heap[r]?)
    (hok : BlkOK w0 base H.next y) (hrel : BlkRel P ι (ι b).2 w1.heap[(ι b).1]? y) : Post P w0 base lo ι H w ι (H.set b y) w1 := by
  have hget : ∀ c z, (H.set b y).get c = some z → (c = b ∧ z = y) ∨ (c ≠ b ∧ H.get c = some z) := fun c z h => by
    rw [Heap.get_set] at h
    by_cases e : c = b
    · subst e; simp at h; exact .inl ⟨rfl, h.symm⟩
    · rw [if_neg e] at h; exact .inr ⟨e, h⟩
  have hlive : ∀ c z, (H.set b y).get c = some z → ∃ z', H.get c = some z' := fun c z h => by
    rcases hget c z h with ⟨rfl, _⟩ | ⟨_, h'⟩
    · exact ⟨x, hx⟩
    · exact ⟨z, h'⟩
  refine ⟨⟨?_, s.hb, s.gl, ?_, ?_, ?_, ?_, ?_⟩, fun _ _ => rfl, Nat.le_refl _, ?_, ?_, by omega, ?_, ?_⟩
  · refine s.below.trans ⟨hw.1, hw.2.1, hw.2.2.1, by omega, fun k hk => hother k ?_⟩
    have := s.lo b x hx; omega
  · intro c c' z z' h h' e
    obtain ⟨u, hu⟩ := hlive c z h
    obtain ⟨u', hu'⟩ := hlive c' z' h'
    exact s.inj c c' u u' hu hu' e
  · intro c z h; obtain ⟨u, hu⟩ := hlive c z h; exact s.lt c u hu
  · intro c z h; obtain ⟨u, hu⟩ := hlive c z h; exact s.lo c u hu
  · intro c z h
    rcases hget c z h with ⟨rfl, rfl⟩ | ⟨hne, hz⟩
    · exact hok
    · exact s.ok c z hz
  · intro c z h
    rcases hget c z h with ⟨rfl, rfl⟩ | ⟨hne, hz⟩
    · exact hrel
    · rw [hother _ (fun e => hne (s.inj c b z x hz hx e))]
      exact s.rel c z hz
  · intro c hc; rw [Heap.get_set, if_neg (by omega)]
  · intro c z hc h; exact hlive c z h
  · intro r hr hne; exact hother r fun e => hne b x hx hlo e.symm
  · intro c z h hc; obtain ⟨u, hu⟩ := hlive c z h; have := s.lt c u hu; omega
theorem Post.forget [E : Env] (s : Sim P w0 base ι H w) (H' : Heap) (hn : H.next ≤ H'.next) (hs : ∀ b x, H'.get b = some x → H.get b = some x) (hk : ∀ b, b < lo → H'.get b = H.get b) :
    Post P w0 base lo ι H w ι H' w where
  sim := { below := s.below, hb := s.hb, gl := s.gl, inj := fun b b' x x' h h' => s.inj b b' x x' (hs _ _ h) (hs _ _ h'), lt := fun b x h => Nat.lt_of_lt_of_le (s.lt b x (hs _ _ h)) hn,
           lo := fun b x h => s.lo b x (hs _ _ h), ok := fun b x h => (s.ok b x (hs _ _ h)).mono hn, rel := fun b x h => s.rel b x (hs _ _ h) }
  ext := fun _ _ => rfl
  next := hn
  keep := hk
  alive := fun b x _ h => ⟨x, hs b x h⟩
  size := Nat.le_refl _
  frame := fun _ _ _ => rfl
  newr := fun b x h hb => absurd (s.lt b x (hs _ _ h)) (by omega)
theorem zb7 (b o j : Nat) : (⟨b, o, none⟩ : Addr).add j = ⟨b, o + j, none⟩ := by
  by_cases h : j = 0 <;> simp [Addr.add, h]
theorem zjj [E : Env] (s : Sim P w0 base ι H w) {n : Nat} {v : AV} {l : List AV} (h : zec H n v = some l) (hv : v.OK w0 base H.next) :
    ∃ a, v.conc ι = .pointer (some a) ∧ l.length = n ∧ (∀ j c, l[j]? = some c → w.cell? (a.add j) = some (c.conc ι)) ∧ ∀ c ∈ l, c.OK w0 base H.next := by
  cases v with
  | ptr b o =>
    simp only [zec] at h
    split at h
    · rename_i t c hb
      split at h
      · rename_i hle
        cases h
        obtain ⟨cur, ho, ⟨rest, hr⟩, hsz⟩ := s.rel b _ hb
        refine ⟨_, rfl, by simp; omega, fun j u hj => ?_, fun u hu => ?_⟩
        · rw [zb7, cell_of_row w _ _ _ _ _ ho]
          rw [← Array.getElem?_toList, hr]
          have hlt : o + j < c.length ∧ c[o + j]? = some u := by
            rw [List.getElem?_take] at hj
            split at hj
            · rw [List.getElem?_drop] at hj
              exact ⟨(List.getElem?_eq_some_iff.1 hj).1, hj⟩
            · cases hj
          rw [List.getElem?_append_left (by simp; omega), List.getElem?_map, hlt.2]
          rfl
        · exact s.ok b _ hb u (List.mem_of_mem_drop (List.mem_of_mem_take hu))
      · cases h
    · cases h
  | rptr a cs =>
    simp only [zec] at h
    split at h
    · cases h
      simp only [AV.OK] at hv
      refine ⟨a, rfl, by simp; omega, fun j c hj => ?_, fun c hc => ?_⟩
      · rw [List.getElem?_take] at hj
        split at hj
        · have hblk : (a.add j).block = a.block := by unfold Addr.add; split <;> rfl
          rw [s.below.cell (p := a.add j) (by rw [hblk]; exact hv.1)]
          exact hv.2.1 ι j c hj
        · cases hj
      · exact OK.mono (Nat.zero_le _) c ((zar ..).1 hv.2.2 c (List.mem_of_mem_take hc))
    · cases h
  | _ => simp [zec] at h
theorem zfw {t : TypeId} {b : Bool} (h : ze1 P t = some b) (w : World) : (isAgg t).run P w = .ok b w := by
  unfold ze1 at h
  unfold isAgg
  cases hu : P.underlying t with
  | none => simp [hu] at h
  | some d =>
    rw [hu] at h
    simp only [Sem.run_bind, run_underlying hu, Result.andThen]
    cases d <;> simp at h <;> subst h <;> rfl
theorem zax {t : TypeId} {n : Nat} (h : za0 P t = some n) (w : World) : (sizeOf t).run P w = .ok n w := by
  unfold za0 at h
  obtain ⟨i, hi, rfl⟩ := Option.map_eq_some_iff.1 h
  simp [sizeOf, typeInfo, hi]
theorem za9 {t : TypeId} {n : Nat} (h : za0 P t = some n) : P.cellsOf t = n := by
  unfold za0 at h; unfold Program.cellsOf; rw [h]; rfl
theorem znm [E : Env] (s : Sim P w0 base ι H w) {t : TypeId} {v x : AV} (h : zv5 P H t v = some x) (hv : v.OK w0 base H.next) :
    ∃ a, v.conc ι = .pointer (some a) ∧ (loadVar t a).run P w = .ok (x.conc ι) w ∧ x.OK w0 base H.next := by
  unfold zv5 at h
  cases hA : ze1 P t with
  | none => simp [hA] at h
  | some b =>
    cases b with
    | true =>
      cases hS : za0 P t with
      | none => simp [hA, hS] at h
      | some n =>
        simp only [hA, hS] at h
        obtain ⟨l, hl, rfl⟩ := Option.map_eq_some_iff.1 h
        obtain ⟨a, ha, hn, hc, hok⟩ := zjj s hl hv
        refine ⟨a, ha, ?_, by simp only [AV.OK]; exact (zar ..).2 hok⟩
        have hld := run_loadCells_list (P := P) w a (l.map (AV.conc ι)) (fun j u hj => by
          rw [List.getElem?_map] at hj
          obtain ⟨c, hc', rfl⟩ := Option.map_eq_some_iff.1 hj
          exact hc j c hc')
        rw [List.length_map, hn] at hld
        simp [loadVar, zfw hA, zax hS, hld, AV.conc, zaz]
    | false =>
      simp only [hA] at h
      split at h
      · rename_i y hl
        cases h
        obtain ⟨a, ha, hn, hc, hok⟩ := zjj s hl hv
        refine ⟨a, ha, ?_, hok x (by simp)⟩
        have := hc 0 x rfl
        have ha0 : a.add 0 = a := by simp [Addr.add]
        rw [ha0] at this
        simp [loadVar, zfw hA, load, Sem.run, this]
      · cases h
theorem zjb : ∀ (vs c : List AV) (o : Nat), o + vs.length ≤ c.length → zbd c o vs = c.take o ++ vs ++ c.drop (o + vs.length)
  | [], c, o, _ => by simp [zbd]
  | v :: vs, c, o, h => by
    simp only [List.length_cons] at h
    simp only [zbd]
    rw [zjb vs (c.set o v) (o + 1) (by simp; omega)]
    have h1 : (c.set o v).take (o + 1) = c.take o ++ [v] := by
      rw [List.take_set, List.set_eq_take_append_cons_drop]
      simp only [List.length_take]
      rw [if_pos (by omega)]
      simp [List.take_take]
    have h2 : (c.set o v).drop (o + 1 + vs.length) = c.drop (o + (vs.length + 1)) := by
      rw [List.drop_set_of_lt (by omega)]
      congr 1
      omega
    rw [h1, h2]
    simp
theorem zof (c vs : List AV) (o : Nat) : (zbd c o vs).length = c.length := by
  induction vs generalizing c o with
  | nil => rfl
  | cons v vs ih => simp [zbd, ih]
theorem znj (w : World) (g : Nat) (cur cs : Array Value) (t : TypeId) (h : w.heap[g]? = some (.cells cur t (0, 0))) : (w.setRow g cs).heap[g]? = some (.cells cs t (0, 0)) := setRow_heap w g cur cs t _ h
theorem zfx [E : Env] (s : Sim P w0 base ι H w) {v : AV} {vs : List AV} {H' : Heap} (h : zcn lo H v vs = some H') (hok : ∀ c ∈ vs, c.OK w0 base H.next) :
    ∃ a w', v.conc ι = .pointer (some a) ∧ (storeCells a (vs.map (AV.conc ι))).run P w = .ok () w' ∧ Post P w0 base lo ι H w ι H' w' := by
  unfold zcn at h
  split at h
  · rename_i b o
    split at h
    · rename_i t c hb
      split at h
      · rename_i hc
        cases h
        simp only [Bool.and_eq_true, decide_eq_true_eq] at hc
        obtain ⟨⟨hlo, hleaf⟩, hle⟩ := hc
        obtain ⟨cur, ho, ⟨rest, hr⟩, hsz⟩ := s.rel b _ hb
        have hcur : c.length ≤ cur.size := by
          have := congrArg List.length hr
          simp at this; omega
        have hst := run_storeCells_at P (ι b).1 o t (vs.map (AV.conc ι)) 0 cur w ho (by simp; omega) (fun u hu => by
          obtain ⟨x, hx, rfl⟩ := List.mem_map.1 hu
          exact zlo (by simpa [zbo] using (List.all_eq_true.1 hleaf) x hx))
        refine ⟨_, _, rfl, hst, ?_⟩
        have hsr := zjb vs c o hle
        refine Post.put s hb _ _ hlo ⟨rfl, rfl, rfl, by simp⟩ (fun r hr' => setRow_other w _ r _ hr') ?_ ?_
        · intro x hx
          rw [hsr] at hx
          simp only [List.mem_append] at hx
          rcases hx with (hx | hx) | hx
          · exact s.ok b _ hb x (List.mem_of_mem_take hx)
          · exact hok x hx
          · exact s.ok b _ hb x (List.mem_of_mem_drop hx)
        · refine ⟨_, znj w _ _ _ t ho, ⟨rest, ?_⟩, ?_⟩
          · simp only [Nat.add_zero, List.length_map]
            rw [hsr, hr]
            simp only [List.map_append, List.map_take, List.map_drop]
            rw [List.take_append_of_le_length (by simp; omega), List.drop_append_of_le_length (by simp; omega)]
            simp
          · simp only [Nat.add_zero, List.length_map, List.size_toArray, List.length_append, List.length_take, List.length_drop, Array.length_toList]
            omega
      · cases h
    · cases h
  · cases h
end
end Go.Ab
