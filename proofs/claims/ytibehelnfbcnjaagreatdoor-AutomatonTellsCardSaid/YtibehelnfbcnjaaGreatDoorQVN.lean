/- What the law's proof leans on, part 15. Conditions: in each statement. -/
import Derived.Test.YtibehelnfbcnjaaGreatDoorQO0
import Derived.Test.YtibehelnfbcnjaaGreatDoorQVX
set_option linter.all false
set_option linter.unusedVariables false
namespace Go.Proofs.YtibehelnfbcnjaaGreatDoor.v
open Go Go.Ab
inductive RD where
 | t (r nt : Nat) (ks : List Nat) (pk : Option (List Nat)) (A : T)
 | g (r : Nat) (ks : List Nat) (pk : Option (List Nat)) (l : List O)
 | v (row : List (Nat × List Nat))
noncomputable def rdOf (f : Func) (n r : Nat) : Option RD :=
 let c := za7 f r
 match Env.live n (3 * zeo c) with
 | none => none
 | some ks =>
  match resT Tryz.prog ks f.ntmps c with
  | some A => some (.t r f.ntmps ks (Env.live n (3 * (zeo c + 1000000))) A)
  | none => match res Tryz.prog c with
   | some l => some (.g r ks (Env.live n (3 * (zeo c + 1000000))) l)
   | none => none
noncomputable def yavk (n : Nat) : Option RD := (lkN n yah4).map .v
noncomputable def tab (f : Func) (n : Nat) (rs : List Nat) : List RD := rs.filterMap (rdOf f n)
noncomputable def zbc (f : Func) (n : Nat) (rs : List Nat) : List RD := (yavk n).toList ++ tab f n rs
def RDs (f : Func) (n : Nat) : List RD → Prop
 | [] => True
 | .t r nt ks pk A :: l => RT Tryz.prog f n r nt ks pk A ∧ RDs f n l
 | .g r ks pk l1 :: l => RG Tryz.prog f n r ks pk l1 ∧ RDs f n l
 | .v row :: l => LV n row ∧ RDs f n l
theorem zyp {f : Func} {n : Nat} {x : RD} {l : List RD} (h : RDs f n [x]) (hl : RDs f n l) : RDs f n (x :: l) := by
 cases x <;> exact ⟨h.1, hl⟩
theorem yazp {f : Func} {n r : Nat} {x : RD} (h : rdOf f n r = some x) : RDs f n [x] := by
 unfold rdOf at h
 dsimp only at h
 split at h
 ·cases h
 ·rename_i ks hk
  split at h
  ·rename_i A hA; cases h; exact ⟨rt hA hk rfl, trivial⟩
  ·split at h
   ·rename_i l hl; cases h; exact ⟨rg hl hk rfl, trivial⟩
   ·cases h
theorem zak {f : Func} {n : Nat} {rs : List Nat} {l : List RD} (h : l = tab f n rs) : RDs f n l := by
 subst h
 unfold tab
 induction rs with
 | nil => trivial
 | cons r rs ih =>
  rw [List.filterMap_cons]
  cases hr : rdOf f n r with
  | none => exact ih
  | some x => exact zyp (yazp hr) ih
theorem zaa {f : Func} {n : Nat} {rs : List Nat} {l : List RD} (h : l = zbc f n rs) : RDs f n l := by
 subst h
 unfold zbc yavk
 cases hl : lkN n yah4 with
 | none => exact zak rfl
 | some row => exact zyp ⟨lv hl, trivial⟩ (zak rfl)
theorem ba0 : ByteArray.mk (Array.mk []) = ByteArray.empty := rfl
theorem ba1 {a : UInt8} {l : List UInt8} : ByteArray.mk (Array.mk (a :: l)) = ByteArray.mk (a :: l).toArray := rfl
theorem tf {α : Type} (x : α) : x = x := rfl
abbrev CD (f : Func) (k : (Nat → Code) → (Nat → Code) → (Nat → Code) → Code) : Prop := CE Tryz.prog (bdy f) (k (za7 f) (lpb f) (lpa f))
abbrev CX (f : Func) (k : (Nat → Code) → (Nat → Code) → (Nat → Code) → Prop) : Prop := k (za7 f) (lpb f) (lpa f)
theorem rsk {f : Func} {n r : Nat} {ks : List Nat} {pk : Option (List Nat)} {l1 l2 : List O} (hu : resD Tryz.prog (za7 f r) = some (l1, l2) := by kernel_rfl) (hh : Env.hint n (zeo (za7 f r)) = [] := by kernel_rfl) (hk : Env.live n (3 * zeo (za7 f r)) = some ks := by kernel_rfl) (hq : Env.live n (3 * (zeo (za7 f r) + 1000000)) = pk := by kernel_rfl) : RS Tryz.prog f n r ks pk l1 l2 := rs hu hh hk hq
theorem rlk {f : Func} {n r : Nat} {ks : List Nat} {pk : Option (List Nat)} {hs : List (Nat × Nat)} {u1 : List (O × List Nat × List Nat)} {l2 : List O} (hu : resL Tryz.prog hs (za7 f r) = some (u1, l2) := by kernel_rfl) (hh : Env.hint n (zeo (za7 f r)) = hs := by kernel_rfl) (hk : Env.live n (3 * zeo (za7 f r)) = some ks := by kernel_rfl) (hq : Env.live n (3 * (zeo (za7 f r) + 1000000)) = pk := by kernel_rfl) : RL Tryz.prog f n r ks pk hs u1 l2 := rl hu hh hk hq
theorem cek {c d : Code} (h : c = d := by kernel_rfl) : CE Tryz.prog c d := ce h
theorem rik {f : FuncId} {fn : Func} {n : Nat} {rs : List ResultVar} (hf : Tryz.prog.funcs[f]? = some fn) (hb : (fn.body.isSome, fn.ntmps, fn.results.toList) = (true, n, rs) := by kernel_rfl) : RI Tryz.prog f fn n rs := ri hf hb
end Go.Proofs.YtibehelnfbcnjaaGreatDoor.v
