/- Part 10 of the texts behind the row. -/
import Derived.Test.YtljojacnjjgceaaANP9
import Derived.WalkKit
import Derived.OpenShut
import Derived.ChangeArms
set_option linter.unusedVariables false
set_option linter.unusedSimpArgs false
namespace Go.Proofs.Ytljojacnjjgceaa.Den
open Go Go.RowKit
def fldsOK (P : Program) (f : TypeId → Kd → Bool) : List Field → Nat → Kd → Bool
  | [], _, .unit => true
  | x :: fs, off, .pair a b => Nat.beq x.offset off && (Nat.beq (P.cellsOf x.type) a.sz && (f x.type a && fldsOK P f fs (off + a.sz) b))
  | _, _, _ => false
def tyOK (P : Program) : Nat → TypeId → Kd → Bool
  | 0, _, _ => false
  | n + 1, t, .int k => match P.underlying t with
    | some (.int k') => decide (k' = k)
    | _ => false
  | n + 1, t, .bool => match P.underlying t with
    | some .bool => true
    | _ => false
  | n + 1, t, .list e => match P.underlying t with
    | some (.slice u) => tyOK P n u e && (Nat.beq (P.cellsOf u) e.sz && Nat.blt 0 e.sz)
    | _ => false
  | n + 1, t, .unit => match P.underlying t with
    | some (.struct fs) => fldsOK P (tyOK P n) fs.toList 0 .unit
    | _ => false
  | n + 1, t, .pair a b => match P.underlying t with
    | some (.struct fs) => fldsOK P (tyOK P n) fs.toList 0 (.pair a b)
    | _ => false
def wfD : (K : Kd) → K.T → Prop
  | .int k, n => (Lit.int k n).wf = true
  | .bool, _ => True
  | .unit, _ => True
  | .pair a b, x => wfD a x.1 ∧ wfD b x.2
  | .list e, xs => xs.length ≤ maxLen ∧ ∀ x ∈ xs, wfD e x
theorem zr8 {α β : Type} {f : α → Option β} : ∀ {l : List α} {ys : List β}, l.mapM f = some ys → ys.length = l.length ∧ ∀ (i : Nat) (x : α), l[i]? = some x → ∃ y, ys[i]? = some y ∧ f x = some y
  | [], ys, h => by simp at h; subst h; simp
  | x :: l, ys, h => by
    rw [List.mapM_cons] at h
    simp only [Option.bind_eq_bind, Option.bind_eq_some_iff, Option.pure_def, Option.some.injEq] at h
    obtain ⟨y, h1, ys', h2, rfl⟩ := h
    obtain ⟨h3, h4⟩ := zr8 h2
    refine ⟨by simp [h3], fun i z hz => ?_⟩
    cases i with
    | zero => simp at hz; subst hz; exact ⟨y, by simp, h1⟩
    | succ i => simpa using h4 i z (by simpa using hz)
theorem zBg {β : Type} {f : Nat → Option β} {n : Nat} {ys : List β} (h : (List.range n).mapM f = some ys) : ys.length = n ∧ ∀ i, i < n → ∃ y, ys[i]? = some y ∧ f i = some y := by
  obtain ⟨h1, h2⟩ := zr8 h
  exact ⟨by simpa using h1, fun i hi => h2 i i (by simp [hi])⟩
theorem zr9 {α : Type} {p : Nat → α → Prop} : ∀ {n : Nat}, (∀ i, i < n → ∃ x, p i x) → ∃ xs : List α, xs.length = n ∧ ∀ (i : Nat) (x : α), xs[i]? = some x → p i x
  | 0, _ => ⟨[], rfl, fun i x h => by simp at h⟩
  | n + 1, h => by
    obtain ⟨xs, h1, h2⟩ := zr9 (n := n) fun i hi => h i (by omega)
    obtain ⟨x, hx⟩ := h n (by omega)
    refine ⟨xs ++ [x], by simp [h1], fun i y hy => ?_⟩
    rcases Nat.lt_trichotomy i n with h3 | h3 | h3
    · rw [List.getElem?_append_left (by omega)] at hy; exact h2 i y hy
    · subst h3
      rw [List.getElem?_append_right (by omega), h1] at hy
      simp at hy; subst hy; exact hx
    · rw [List.getElem?_eq_none (by simp; omega)] at hy; cases hy
theorem cells?_spec {w : World} {base : Nat} {a : Addr} {n : Nat} {es : List Value} (h : w.cells? base a n = some es) : es.length = n ∧ ∀ j u, es[j]? = some u → w.cell? (a.add j) = some u := by
  unfold World.cells? at h
  split at h
  · obtain ⟨h1, h2⟩ := zBg h
    refine ⟨h1, fun j u hu => ?_⟩
    have hj : j < n := by have := (List.getElem?_eq_some_iff.1 hu).1; omega
    obtain ⟨y, h3, h4⟩ := h2 j hj
    rw [hu] at h3; cases h3; exact h4
  · cases h
theorem cell?_lt {w : World} {a : Addr} {u : Value} (h : w.cell? a = some u) : a.block < w.heap.size := by
  unfold World.cell? at h
  split at h
  · rename_i h1; exact (Array.getElem?_eq_some_iff.1 h1).1
  · cases h
section
variable {H : Type} {enc : TypeId × Value → H} {P : Program} {w : World} {base : Nat} {spare : Nat → Bool} {held : Bool}
theorem zsa {n fuel : Nat} (ih : ∀ {t : TypeId} {K : Kd} {cs : List Value} {d : DataW H} {ps : List MemPlace}, tyOK P n t K = true → P.cellsOf t = K.sz → DataW.trod enc P w base spare held fuel t cs = some (d, ps) → ∃ x : K.T, CRel w (fun b => b < w.heap.size) K x cs ∧ wfD K x) :
    ∀ {fs : List Field} {off : Nat} {K : Kd} {cs : List Value} {l : List (DataW H × List MemPlace)}, fldsOK P (tyOK P n) fs off K = true → cs.length = off + K.sz →
      (fs.mapM fun f => DataW.trod enc P w base spare held fuel f.type ((cs.drop f.offset).take (P.cellsOf f.type))) = some l → ∃ x : K.T, CRel w (fun b => b < w.heap.size) K x (cs.drop off) ∧ wfD K x
  | [], off, K, cs, l, ho, hl, h => by
    cases K with
    | unit => exact ⟨(), by simp only [CRel]; exact List.drop_eq_nil_of_le (by simp [Kd.sz] at hl; omega), trivial⟩
    | _ => simp [fldsOK] at ho
  | f :: fs, off, K, cs, l, ho, hl, h => by
    cases K with
    | pair a b =>
      simp only [fldsOK, Bool.and_eq_true] at ho
      obtain ⟨h1, h2, h3, h4⟩ := ho
      rw [List.mapM_cons] at h
      simp only [Option.bind_eq_bind, Option.bind_eq_some_iff, Option.pure_def, Option.some.injEq] at h
      obtain ⟨⟨d1, p1⟩, h5, l', h6, _⟩ := h
      rw [Nat.eq_of_beq_eq_true h1, Nat.eq_of_beq_eq_true h2] at h5
      obtain ⟨x, hx, wx⟩ := ih h3 (Nat.eq_of_beq_eq_true h2) h5
      simp only [Kd.sz] at hl
      obtain ⟨y, hy, wy⟩ := zsa ih h4 (by omega) h6
      refine ⟨(x, y), ?_, wx, wy⟩
      simp only [CRel]
      refine ⟨_, _, ?_, hx, hy⟩
      rw [← List.drop_drop]
      exact (List.take_append_drop a.sz (cs.drop off)).symm
    | _ => simp [fldsOK] at ho
theorem zmf : ∀ {n : Nat} {t : TypeId} {K : Kd} {fuel : Nat} {cs : List Value} {d : DataW H} {ps : List MemPlace}, tyOK P n t K = true → P.cellsOf t = K.sz → DataW.trod enc P w base spare held fuel t cs = some (d, ps) →
    ∃ x : K.T, CRel w (fun b => b < w.heap.size) K x cs ∧ wfD K x
  | 0, t, K, fuel, cs, d, ps, ho, hsz, h => by simp [tyOK] at ho
  | n + 1, t, K, 0, cs, d, ps, ho, hsz, h => by simp [DataW.trod] at h
  | n + 1, t, K, fuel + 1, cs, d, ps, ho, hsz, h => by
    have strct : ∀ {fs : Array Field}, P.underlying t = some (.struct fs) → fldsOK P (tyOK P n) fs.toList 0 K = true → ∃ x : K.T, CRel w (fun b => b < w.heap.size) K x cs ∧ wfD K x := by
      intro fs hu hf
      unfold DataW.trod at h
      simp only [hu] at h
      split at h
      · rename_i hl
        simp only [Option.map_eq_some_iff] at h
        obtain ⟨l, h1, _⟩ := h
        exact zsa (off := 0) (fun h2 h3 h4 => zmf h2 h3 h4) hf (by rw [hl, hsz]; omega) h1
      · cases h
    cases K with
    | int k =>
      simp only [tyOK] at ho
      split at ho
      · rename_i k' hu
        obtain rfl : k' = k := by simpa using ho
        obtain ⟨m, rfl, _, hw⟩ := DataW.trod_int hu h
        exact ⟨m, by simp [CRel], hw⟩
      · cases ho
    | bool =>
      simp only [tyOK] at ho
      split at ho
      · rename_i hu
        obtain ⟨b, rfl, _⟩ := DataW.trod_bool hu h
        exact ⟨b, by simp [CRel], trivial⟩
      · cases ho
    | unit =>
      simp only [tyOK] at ho
      split at ho
      · rename_i fs hu; exact strct hu ho
      · cases ho
    | pair a b =>
      simp only [tyOK] at ho
      split at ho
      · rename_i fs hu; exact strct hu ho
      · cases ho
    | list e =>
      simp only [tyOK] at ho
      split at ho
      · rename_i u hu
        simp only [Bool.and_eq_true] at ho
        obtain ⟨h1, h2, h3⟩ := ho
        have hes := Nat.eq_of_beq_eq_true h2
        have hpos : 0 < e.sz := by simpa [Nat.blt_eq] using h3
        rcases DataW.trod_slice hu h with ⟨rfl, _⟩ | ⟨ad, len, cap, elems, rest, m, _, rfl, _, _, hb1, hb2, hel, h6, _⟩
        · exact ⟨[], by simp only [CRel]; exact ⟨none, 0, rfl, Nat.le_refl _, fun h => by simp at h⟩, by simp [wfD]⟩
        · obtain ⟨xs, h7, h8⟩ := zr9 (p := fun i (x : e.T) => ∃ es, CRel w (fun b => b < w.heap.size) e x es ∧ wfD e x ∧ ∀ (j : Nat) (u : Value), es[j]? = some u → w.cell? (ad.add (i * e.sz + j)) = some u) (n := len) (fun i hi => by
            have h8 := h6 i hi
            rw [List.getElem?_eq_getElem (by omega), Option.bind_eq_some_iff] at h8
            obtain ⟨es, h9, h10⟩ := h8
            obtain ⟨x, h11, h12⟩ := zmf h1 hes h10
            obtain ⟨_, h13⟩ := cells?_spec h9
            exact ⟨x, es, h11, h12, fun j v hj => by have := h13 j v hj; rw [add_add, hes] at this; exact this⟩)
          refine ⟨xs, ?_, by rw [h7]; omega, fun x hx => ?_⟩
          · simp only [CRel]
            refine ⟨some ad, cap, by rw [h7], by rw [h7]; exact hb1, fun h0 => ⟨ad, rfl, ?_, fun i x hx => ?_⟩⟩
            · obtain ⟨es, h9, _, h10⟩ := h8 0 xs[0] (List.getElem?_eq_getElem h0)
              have h11 := h9.length
              have h12 : 0 < es.length := by omega
              have := cell?_lt (h10 0 es[0] (List.getElem?_eq_getElem h12))
              rw [zgu] at this; exact this
            · obtain ⟨es, h9, _, h10⟩ := h8 i x hx
              exact ⟨es, h9, h10⟩
          · obtain ⟨i, hi⟩ := List.mem_iff_getElem?.1 hx
            obtain ⟨es, _, h9, _⟩ := h8 i x hi
            exact h9
      · cases ho
end
section
variable {H : Type} {enc : TypeId × Value → H} {P : Program} {w : World} {base : Nat} {spare : Nat → Bool} {held : Bool}
theorem zBh {n : Nat} {t : TypeId} (K : Kd) {v : Value} {d : DataW H} {ps : List MemPlace} (ho : tyOK P n t K = true) (hsz : P.cellsOf t = K.sz) (h : DataW.Trod enc P w base spare held t v d ps) {cs : List Value} (hcs : v.cells.toList = cs) :
    ∃ x : K.T, CRel w (fun b => b < w.heap.size ∧ ¬ False) K x cs ∧ wfD K x := by
  obtain ⟨m, hm⟩ := h
  obtain ⟨x, hx, hw⟩ := zmf ho hsz hm
  subst hcs
  exact ⟨x, CRel.mono (fun b hb => ⟨hb, id⟩) (fun _ _ => rfl) hx, hw⟩
end
def Kd.sx : Kd → Option Sx
  | .unit => some .nil
  | .pair a b => match b.sx with
    | some r => cond (decide (a.sz = 1) && !(match a with | .pair _ _ => true | _ => false)) (some (.dat a r)) none
    | none => none
  | _ => none
abbrev boolR : Sx := .grp (.dat .bool .nil) .nil
theorem specF {P : Program} {T : Tab} {f : FuncId} {fn : Func} {le : LE} {frz : List Nat} {ann : List Norm} {cuts : List (Nat × Norm)} {rv : List (Nat × Option (Nat × Bool))} (hT : TabOK P T) (hmix : P.follows .mixedOrders = true) (hf : P.funcs[f]? = some fn)
    (h : okCk P fn T frz ann cuts (le.rt.args.length + le.D.len) le.ok = true) (hrv : lightRes P fn.results.toList = some rv) (hy : ∀ p, le.ey (le.yb p) = p) (hD : ∀ xd, (enX le.D xd 0).2 = [])
    (hrun : ∀ xa xd y, le.fn (le.xb (xa, xd)) = some y → ∃ fuel, le.toLF.go T fuel (irOf P fn frz ann cuts) rv xa xd = some y) : FnSpec P f le := by
  obtain ⟨h1, h2, h3, h4, h5, h6⟩ := zqX h
  obtain ⟨j, hj⟩ := zqV h3
  exact fn_spec hT hmix hf (zqW h1) hj h4 h5 hrv hy hD h6 hrun
theorem zBi {P : Program} {f : FuncId} {D : Sx} {fl : Bool} {fn : D.T → Option boolR.T} (h : FnSpec P f ⟨.pure D boolR fl, fn⟩) {w : World} {vs : List Value} {x : D.T} {b : Bool}
    (hps : WX w (fun b => b < w.heap.size ∧ ¬ False) D x vs []) (hfn : fn x = some ((b, ()), ())) :
    Calls P f vs.toArray w fun e w' => e = .returned (.bool b) ∧ Below w.heap.size w w' := by
  refine Calls.mono (h w (fun _ => False) [] vs [] () x _ (fun _ h => h.elim) ⟨rfl, rfl⟩ List.nodup_nil (fun b hb => by cases hb) (hps.monoB fun b hb => ⟨hb.1, hb.2, fun h => by cases h⟩) hfn) fun e w' he => ?_
  obtain ⟨ur, qa, qr, rfl, hk, _, _, _, _, h6⟩ := he
  refine ⟨?_, ⟨hk.os, hk.tape, hk.output, hk.size, fun k hk' => hk.kept k hk' (fun h => by cases h)⟩⟩
  obtain ⟨u1, u2, p1, p2, e1, _, ⟨u, us', e2, h7, h8, _⟩, h9, _⟩ := h6
  simp only [CRel] at h7
  simp at h7 e2
  obtain ⟨rfl, rfl⟩ := e2
  subst h7; subst h9; subst h8
  have : ur = #[.bool b] := Array.toList_inj.1 (by simpa using e1)
  subst this
  simp [resU]
end Go.Proofs.Ytljojacnjjgceaa.Den
namespace Go.Proofs.Ytljojacnjjgceaa.Den
open Go Go.RowKit
def zap (fuel : Nat) : Tab := Tab.of [(5, (zla fuel).te), (6, (zld fuel).te), (7, (zle fuel).te), (8, (zlb fuel).te), (9, (zfS fuel).te)] []
def zpS : List Norm := [⟨[5, 4, 3], [], [], []⟩, ⟨[7, 4, 6, 3, 5], [], [], []⟩]
noncomputable def zaf : C := irOf Try.prog Try.f4 [12, 14, 17, 18, 22, 27, 28] zpS []
def zaX : List (Nat × Option (Nat × Bool)) := [(2, none)]
abbrev zpT : Sx := .grp (.dat (Kd.list (Kd.int IntKind.u8)) .nil) .nil
abbrev zyu : Sx := .grp (.dat Kd.bool .nil) .nil
abbrev zag : LF := .pure zpT zyu true
abbrev zbH := (Int) × (List Int) × (List NY) × (List Bool) × (List WY) × (List (List (List Int)))
abbrev zdU := (Int) × (List Int) × (Bool) × (Int) × (List NY) × (List Bool) × (List WY) × (List (List (List Int)))
def zaE (v : zbH) : Env × Heap := ([(5, SV.int .i64 v.1), (4, SV.es I6 v.2.1), (3, SV.ptr 0 0)], [Blk.cells [SV.es KN v.2.2.1, SV.es Kd.bool v.2.2.2.1, SV.es KW v.2.2.2.2.1, SV.es (Kd.list (Kd.list I6)) v.2.2.2.2.2] 0 4])
def zdV (v : zdU) : Env × Heap := ([(7, SV.int .i64 v.1), (4, SV.es I6 v.2.1), (6, SV.bool v.2.2.1), (3, SV.ptr 0 0), (5, SV.int .i64 v.2.2.2.1)], [Blk.cells [SV.es KN v.2.2.2.2.1, SV.es Kd.bool v.2.2.2.2.2.1, SV.es KW v.2.2.2.2.2.2.1, SV.es (Kd.list (Kd.list I6)) v.2.2.2.2.2.2.2] 0 4])
def ziU (fuel : Nat) (g0 : zbH → Option ((Bool × Unit) × Unit)) (g1 : zdU → Option ((Bool × Unit) × Unit)) (v : zdU) : Option ((Bool × Unit) × Unit) :=
 cond (decide (v.1 < (zz (List.length v.2.1))))
 (cond (v.2.2.1)
 (g1 (w64 (v.1 + (1 : Int)), v.2.1, true, v.2.2.2.1, v.2.2.2.2.1, v.2.2.2.2.2.1, v.2.2.2.2.2.2.1, v.2.2.2.2.2.2.2))
 (tst (decide (0 ≤ v.1)) <|
 tst (decide (v.1 < (zz (List.length v.2.1)))) <|
 tst (decide (0 ≤ v.2.2.2.1)) <|
 tst (decide (v.2.2.2.1 < (zz (List.length v.2.1)))) <|
 tst (decide (0 ≤ w64 (w64 (List.getD v.2.1 (Int.toNat v.1) 0 * (5 : Int)) + List.getD v.2.1 (Int.toNat v.2.2.2.1) 0))) <|
 tst (decide (w64 (w64 (List.getD v.2.1 (Int.toNat v.1) 0 * (5 : Int)) + List.getD v.2.1 (Int.toNat v.2.2.2.1) 0) < (zz (List.length v.2.2.2.2.2.1)))) <|
 g1 (w64 (v.1 + (1 : Int)), v.2.1, List.getD v.2.2.2.2.2.1 (Int.toNat (w64 (w64 (List.getD v.2.1 (Int.toNat v.1) 0 * (5 : Int)) + List.getD v.2.1 (Int.toNat v.2.2.2.1) 0))) false, v.2.2.2.1, v.2.2.2.2.1, v.2.2.2.2.2.1, v.2.2.2.2.2.2.1, v.2.2.2.2.2.2.2)))
 (cond (!v.2.2.1)
 (some (((false, ()), ())))
 (tst (decide (0 ≤ w64 (v.2.2.2.1 - (1 : Int)))) <|
 tst (decide (w64 (v.2.2.2.1 - (1 : Int)) < (zz (List.length v.2.1)))) <|
 tst (decide (0 ≤ v.2.2.2.1)) <|
 tst (decide (v.2.2.2.1 < (zz (List.length v.2.1)))) <|
 cond (decide (List.getD v.2.1 (Int.toNat (w64 (v.2.2.2.1 - (1 : Int)))) 0 ≥ List.getD v.2.1 (Int.toNat v.2.2.2.1) 0))
 (some (((false, ()), ())))
 (g0 (w64 (v.2.2.2.1 + (1 : Int)), v.2.1, v.2.2.2.2.1, v.2.2.2.2.2.1, v.2.2.2.2.2.2.1, v.2.2.2.2.2.2.2))))
def zlf (fuel : Nat) (g0 : zbH → Option ((Bool × Unit) × Unit)) (g1 : zdU → Option ((Bool × Unit) × Unit)) : zdU → Option ((Bool × Unit) × Unit) := ziU fuel g0 g1
theorem zyv (fuel : Nat) (G) : zaf.lp (zap fuel) 0 fuel G (endX zaX zag) 1 zdV = iter (zlf fuel (fun v => G 0 (zaE v).1 (zaE v).2)) fuel := C.lp_iter fun g v =>
  (show run (zap fuel) 0 fuel (zaf.bdAt 1) (zdV v).1 (zdV v).2 (loopK 0 (zaf.nmAt 1) g (zaf.contAt (zap fuel) 0 fuel G 0 1 (endX zaX zag))) = ziU fuel (fun v => G 0 (zaE v).1 (zaE v).2) (fun v => g (zdV v).1 (zdV v).2) v by kernel_rfl)
def ziV (fuel : Nat) (X1 : zdU → Option ((Bool × Unit) × Unit)) (g0 : zbH → Option ((Bool × Unit) × Unit)) (v : zbH) : Option ((Bool × Unit) × Unit) :=
 cond (decide (v.1 < (zz (List.length v.2.1))))
 (X1 ((0 : Int), v.2.1, false, v.1, v.2.2.1, v.2.2.2.1, v.2.2.2.2.1, v.2.2.2.2.2))
 (some (((true, ()), ())))
def zlg (fuel : Nat) (g0 : zbH → Option ((Bool × Unit) × Unit)) : zbH → Option ((Bool × Unit) × Unit) := ziV fuel (iter (zlf fuel g0) fuel) g0
theorem zyw (fuel : Nat) (G) : zaf.lp (zap fuel) 0 fuel G (endX zaX zag) 0 zaE = iter (zlg fuel) fuel := C.lp_iter fun g v =>
  (show run (zap fuel) 0 fuel (zaf.bdAt 0) (zaE v).1 (zaE v).2 (loopK 0 (zaf.nmAt 0) g (zaf.contAt (zap fuel) 0 fuel G 0 0 (endX zaX zag))) = ziV fuel (zaf.lp (zap fuel) 0 fuel (fun m => bif Nat.beq m 0 then g else G m) (endX zaX zag) 1 zdV) (fun v => g (zaE v).1 (zaE v).2) v by kernel_rfl).trans (by rw [zyv]; rfl)
def ziW (fuel : Nat) (X0 : zbH → Option ((Bool × Unit) × Unit)) (x0 : List Int) : Option ((Bool × Unit) × Unit) :=
 cond (decide ((zz (List.length x0)) > (1048576 : Int)))
 (some (((true, ()), ())))
 (Option.bind (ziJ fuel ((x0, ()), ())) fun y_2 =>
 Option.bind (ziQ fuel ((y_2.1.1, y_2.1.2.1, y_2.1.2.2.1, y_2.1.2.2.2.1, ()), ())) fun y_3 =>
 Option.bind (zdJ fuel ((y_2.1.1, y_2.1.2.1, y_2.1.2.2.1, y_2.1.2.2.2.1, ()), ())) fun y_4 =>
 Option.bind (zdT fuel ((y_3.1.1, ()), (y_4.1.1, ()), ())) fun y_5 =>
 cond (!y_5.1.1)
 (Option.bind (zdJ fuel ((y_2.1.1, y_2.1.2.1, y_2.1.2.2.1, y_2.1.2.2.2.1, ()), ())) fun y_7 =>
 Option.bind (zdT fuel ((y_3.1.1, ()), (y_7.1.1, ()), ())) fun y_8 =>
 some (((y_8.1.1, ()), ())))
 (Option.bind (zc6 fuel ((y_2.1.1, y_2.1.2.1, y_2.1.2.2.1, y_2.1.2.2.2.1, ()), ())) fun y_7 =>
 cond (!y_7.1.1)
 (Option.bind (zdJ fuel ((y_2.1.1, y_2.1.2.1, y_2.1.2.2.1, y_2.1.2.2.2.1, ()), ())) fun y_9 =>
 Option.bind (zdT fuel ((y_3.1.1, ()), (y_9.1.1, ()), ())) fun y_10 =>
 some (((y_10.1.1, ()), ())))
 (X0 ((1 : Int), y_3.1.1, y_2.1.1, y_2.1.2.1, y_2.1.2.2.1, y_2.1.2.2.2.1))))
def ziX (fuel : Nat) (z : (((List Int) × Unit) × Unit)) : Option ((Bool × Unit) × Unit) := ziW fuel (iter (zlg fuel) fuel) z.1.1
theorem zyx (fuel : Nat) (xa : zag.rt.T) (xd : zag.D.T) : zag.go (zap fuel) fuel zaf zaX xa xd = ziX fuel (zag.xb (xa, xd)) :=
  (show zag.go (zap fuel) fuel zaf zaX xa xd = ziW fuel (zaf.lp (zap fuel) 0 fuel (fun _ _ _ => none) (endX zaX zag) 0 zaE) xd.1.1 by kernel_rfl).trans (by rw [zyw]; rfl)
abbrev zpU (fuel : Nat) : LE := ⟨zag, ziX fuel⟩
theorem zyy (fuel : Nat) : FnSpec Try.prog 4 (zpU fuel) := specF (T := zap fuel) (fn := Try.f4) (le := zpU fuel) (frz := [12, 14, 17, 18, 22, 27, 28]) (ann := zpS) (cuts := []) (rv := zaX) (TabOK.of (entCons (zx3 fuel) (entCons (zyo fuel) (entCons (zyt fuel) (entCons (zyb fuel) (entCons (zkr fuel) entNil))))) (methNil)) mixed (by kernel_rfl) (by kernel_rfl) (by kernel_rfl) (fun _ => rfl) (fun _ => rfl) (fun xa xd y h => ⟨fuel, (zyx fuel xa xd).trans h⟩)
end Go.Proofs.Ytljojacnjjgceaa.Den
namespace Go.Proofs.Ytljojacnjjgceaa.Den
open Go Go.RowKit
section
variable {f : Nat}
theorem zBj (f : Nat) (a b : List Int) (hl : a.length < 4294967296) (hf : a.length < f) : zdT f ((a, ()), (b, ()), ()) = some ((dcd (a = b), ()), ()) := by
  show ziT f (iter (ziS f) f) a b = _
  unfold ziT
  by_cases h : a.length = b.length
  · rw [show (zz a.length != zz b.length) = false by simp [zz_eq, h], cond_false]
    refine (iter_up (st := ziS f) (enc := fun i (s : Unit) => ((i : Int), a, b)) (body := fun i k s => cond (List.getD a i 0 != List.getD b i 0) (some ((false, ()), ())) (k s)) (fin := fun _ => some ((true, ()), ())) a.length ?_ ?_ a.length 0 () f (by omega) hf).trans ?_
    · intro i s g hi
      show zgt f g _ = _
      unfold zgt
      simp only [zz_eq, lt_cast hi, lt_cast (h ▸ hi : i < b.length), le_cast, decide_true, cond_true, Int.toNat_natCast, w64_up (show i < 4294967296 by omega)]
    · intro s g
      show zgt f g _ = _
      unfold zgt
      simp only [zz_eq, zh, decide_false, cond_false]
    · rw [zip0 a b 0 h (fun x y => x != y) (fun x y => by simp)]
      exact za3 (fun h => by rw [dcd_pos h]) fun h => by rw [dcd_neg h]
  · rw [show (zz a.length != zz b.length) = true by simp [zz_eq]; omega, cond_true, dcd_neg fun e => h (by rw [e])]
theorem zgR {s : List Bool} (h : s.length = 5) : ∃ a b c d e, s = [a, b, c, d, e] := by
  match s, h with
  | [a, b, c, d, e], _ => exact ⟨a, b, c, d, e, rfl⟩
theorem zBk : ∀ a b c d e : Bool, (outS5 [a, b, c, d, e]).length ≤ 5 := by decide +kernel
theorem zBl : ∀ a b c d e : Bool, ∀ i : Nat, i < 5 → 1 ≤ i → i < (outS5 [a, b, c, d, e]).length → List.getD (outS5 [a, b, c, d, e]) (i - 1) 0 < List.getD (outS5 [a, b, c, d, e]) i 0 := by decide +kernel
theorem out_at0 : ∀ a b c d e : Bool, ∀ i : Nat, i < 5 → i < (outS5 [a, b, c, d, e]).length → ∃ k : Nat, k < 5 ∧ List.getD (outS5 [a, b, c, d, e]) i 0 = (k : Int) ∧ List.getD [a, b, c, d, e] k false = true := by decide +kernel
theorem zBm : ∀ a b c d e : Bool, ∀ k : Nat, k < 5 → List.getD [a, b, c, d, e] k false = true → ∃ i : Nat, i < 5 ∧ i < (outS5 [a, b, c, d, e]).length ∧ List.getD (outS5 [a, b, c, d, e]) i 0 = (k : Int) := by decide +kernel
theorem zBn : ∀ b c d e : Bool, 0 < (outS5 [true, b, c, d, e]).length ∧ List.getD (outS5 [true, b, c, d, e]) 0 0 = 0 := by decide +kernel
section
variable {s : List Bool} (h : s.length = 5)
include h
theorem out_len : (outS5 s).length ≤ 5 := by obtain ⟨a, b, c, d, e, rfl⟩ := zgR h; exact zBk a b c d e
theorem out_asc {i : Nat} (hi : 1 ≤ i) (hl : i < (outS5 s).length) : List.getD (outS5 s) (i - 1) 0 < List.getD (outS5 s) i 0 := by
  have := out_len h
  obtain ⟨a, b, c, d, e, rfl⟩ := zgR h; exact zBl a b c d e i (by omega) hi hl
theorem out_at {i : Nat} (hl : i < (outS5 s).length) : ∃ k : Nat, k < 5 ∧ List.getD (outS5 s) i 0 = (k : Int) ∧ s.getD k false = true := by
  have := out_len h
  obtain ⟨a, b, c, d, e, rfl⟩ := zgR h; exact out_at0 a b c d e i (by omega) hl
theorem out_has {k : Nat} (hk : k < 5) (ho : s.getD k false = true) : ∃ i : Nat, i < (outS5 s).length ∧ List.getD (outS5 s) i 0 = (k : Int) := by
  obtain ⟨a, b, c, d, e, rfl⟩ := zgR h
  obtain ⟨i, _, h1, h2⟩ := zBm a b c d e k hk ho
  exact ⟨i, h1, h2⟩
theorem zBo (h0 : s.getD 0 false = true) : 0 < (outS5 s).length ∧ List.getD (outS5 s) 0 0 = 0 := by
  obtain ⟨a, b, c, d, e, rfl⟩ := zgR h
  obtain rfl : a = true := h0
  exact zBn b c d e
end
theorem NetT.sym {N : List NY} {L : List Bool} {W : List WY} {P : List (List (List Int))} (h : NetT N L W P) {a b : Nat} (ha : a < 5) (hb : b < 5) : lk L a b = lk L b a := by
  unfold lk
  rcases Nat.lt_trichotomy a b with h1 | h1 | h1
  · exact ((h.link b hb).sym a h1).symm
  · subst h1; rfl
  · exact (h.link a ha).sym b h1
theorem reachPathLaw (code : List Int) (hc : ∀ x ∈ code, 0 ≤ x ∧ x ≤ 255) (hf : 10000 < f) : ziX f ((code, ()), ()) = some ((true, ()), ()) := by
  refine Ret.eq ?_
  show Ret (ziW f (iter (zlg f) f) code) _
  unfold ziW
  refine Ret.cond (fun _ => Ret.ret rfl) fun _ => ?_
  refine Ret.bind (zA7 code hc (by omega)) fun y hy => ?_
  obtain ⟨⟨N, L, W, P, ⟨⟩⟩, y2⟩ := y
  have hoff : Off (N, L, W, P, ()) := hy
  have hL : L.length = 25 := hoff.links
  simp only
  have hr : reachL L = outS5 (reachS L) := if_pos hL
  have h5 := out_len (zcf (L := L))
  rw [zBf f (by omega) N L W P, zBd f (by omega) N L W P, hr]
  simp only [Option.bind_some]
  rw [zBj f _ _ (by omega) (by omega), dcd_pos rfl]
  simp only [Option.bind_some, Bool.not_true, cond_false]
  rw [zl9 (n := 1000) (by omega) (by omega) (by omega) hoff.full.small]
  simp only [Option.bind_some]
  by_cases hT : NetT N L W P
  rotate_left
  · rw [dcd_neg hT]
    exact Ret.ret rfl
  rw [dcd_pos hT]
  simp only [Bool.not_true, cond_false]
  have hon : ∀ i, (reachS L).getD i false = true ↔ Rch L i := fun i => zr3 i
  obtain ⟨hpos, hroot⟩ := zBo (zcf (L := L)) ((hon 0).2 Rch.root)
  refine Ret.loop (fun n v => ∃ i : Nat, v = ((i : Int), outS5 (reachS L), N, L, W, P) ∧ 1 ≤ i ∧ i + n = (outS5 (reachS L)).length) ?_ f ((outS5 (reachS L)).length - 1) _ ⟨1, rfl, by omega, by omega⟩ (by omega)
  rintro n v g ⟨i, rfl, hi1, hin⟩ hg
  show Ret (ziV f _ g _) _
  unfold ziV
  by_cases hi : i < (outS5 (reachS L)).length
  rotate_left
  · simp only [zz_eq, show ¬ ((i : Int) < (((outS5 (reachS L)).length : Nat) : Int)) by omega, decide_false, cond_false]
    exact Ret.ret rfl
  simp only [zz_eq, lt_cast hi, decide_true, cond_true]
  obtain ⟨x, hx5, hxi, hxs⟩ := out_at (zcf (L := L)) hi
  have hasc := out_asc (zcf (L := L)) hi1 hi
  obtain ⟨p, hp5, hpi, _⟩ := out_at (zcf (L := L)) (show i - 1 < (outS5 (reachS L)).length by omega)
  have hx0 : x ≠ 0 := by omega
  obtain ⟨a, ha5, has, hlk⟩ : ∃ a, a < 5 ∧ (reachS L).getD a false = true ∧ lk L a x = true := by
    have hR := (hon x).1 hxs
    cases hR with
    | root => exact absurd rfl hx0
    | step h1 h2 h3 h4 => exact ⟨_, h2, (hon _).2 h1, h4⟩
  obtain ⟨k0, hk0, hka⟩ := out_has (zcf (L := L)) ha5 has
  refine Ret.loop (step := zlf f g) (fun n v => ∃ (k : Nat) (so : Bool), v = ((k : Int), outS5 (reachS L), so, (i : Int), N, L, W, P) ∧ k + n = (outS5 (reachS L)).length ∧ (so = true ∨ k ≤ k0)) ?_ f (outS5 (reachS L)).length _ ⟨0, false, rfl, by omega, .inr (by omega)⟩ (by omega)
  rintro m v g' ⟨k, so, rfl, hkm, hso⟩ hg'
  show Ret (ziU f g g' _) _
  unfold ziU
  by_cases hk : k < (outS5 (reachS L)).length
  · obtain ⟨c, hc5, hck, _⟩ := out_at (zcf (L := L)) hk
    simp only [zz_eq, lt_cast hk, decide_true, cond_true, w64_up (show k < 4294967296 by omega)]
    cases so with
    | true => exact hg' (m - 1) _ (by omega) ⟨k + 1, true, rfl, by omega, .inl rfl⟩
    | false =>
      have ecx : w64 (w64 (List.getD (outS5 (reachS L)) k 0 * (5 : Int)) + List.getD (outS5 (reachS L)) i 0) = ((c * 5 + x : Nat) : Int) := by rw [hxi, hck]; exact mul5 hc5 hx5
      have i0 := idx_lt hc5 hx5
      have i1 := lt_cast hi
      simp only [cond_false, le_cast, i1, decide_true, cond_true]
      simp only [Int.toNat_natCast]
      simp only [ecx]
      simp only [hL]
      simp only [Int.toNat_natCast, i0, le_cast, decide_true, cond_true]
      have hor : List.getD L (c * 5 + x) false = true ∨ k + 1 ≤ k0 := by
        by_cases hkk : k = k0
        · refine .inl ?_
          rw [← hkk, hck] at hka
          have : c = a := by omega
          rw [this]; exact hlk
        · exact .inr (by have := hso.resolve_left (by simp); omega)
      have key : Ret (g' (((k + 1 : Nat) : Int), outS5 (reachS L), List.getD L (c * 5 + x) false, (i : Int), N, L, W, P)) fun r => r = ((true, ()), ()) := hg' (m - 1) _ (by omega) ⟨k + 1, _, rfl, by omega, hor⟩
      exact key
  · obtain rfl : so = true := by
      rcases hso with h | h
      · exact h
      · omega
    have e1 : w64 ((i : Int) - 1) = ((i - 1 : Nat) : Int) := w64_dn (by omega) (by omega)
    simp only [zz_eq, show ¬ ((k : Int) < (((outS5 (reachS L)).length : Nat) : Int)) by omega, decide_false, cond_false, Bool.not_true, e1, le_cast, lt_cast hi, lt_cast (show i - 1 < (outS5 (reachS L)).length by omega), decide_true, cond_true, Int.toNat_natCast, show ¬ (List.getD (outS5 (reachS L)) (i - 1) 0 ≥ List.getD (outS5 (reachS L)) i 0) by omega, w64_up (show i < 4294967296 by omega)]
    exact hg (n - 1) _ (by omega) ⟨i + 1, rfl, by omega, by omega⟩
end
end Go.Proofs.Ytljojacnjjgceaa.Den
namespace Go.Proofs.Ytljojacnjjgceaa.Den
open Go Go.RowKit
theorem zBp {a : List Int} (h : wfD (Kd.list (.int .u8)) a) : ∀ x ∈ a, 0 ≤ x ∧ x ≤ 255 := by
  simp only [wfD] at h
  intro x hx
  have h2 := h.2 x hx
  simp only [Lit.wf, Bool.and_eq_true, decide_eq_true_eq, show IntKind.u8.min = 0 from by decide, show IntKind.u8.max = 255 from by decide] at h2
  exact h2
theorem pureNetReachPath (a : List Int) (ha : wfD (Kd.list (.int .u8)) a) : ∃ fuel, ziX fuel ((a, ()), ()) = some ((true, ()), ()) := ⟨10001, reachPathLaw a (zBp ha) (by omega)⟩
end Go.Proofs.Ytljojacnjjgceaa.Den
