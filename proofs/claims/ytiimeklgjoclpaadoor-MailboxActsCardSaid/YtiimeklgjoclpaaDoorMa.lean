/- What lies in a box: rows of entries; those that go. -/
import Derived.Test.YtiimeklgjoclpaaDoorHe
import Derived.Test.YtiimeklgjoclpaaDoorOb
import Derived.Test.YtiimeklgjoclpaaDoorCa
namespace Go.Proofs.YtiimeklgjoclpaaDoor
open Go.Sx
set_option maxRecDepth 100000
set_option pp.deepTerms false
set_option pp.maxSteps 300
set_option linter.unusedSimpArgs false
set_option linter.unusedVariables false

/-- What lies in a box, and where its bytes are. -/
structure Ly where
  seq : Int
  c : Cmd
  b : List UInt8
  a : Option Addr
  cap : Nat
  since : Int
abbrev Ly.sg (y : Ly) : List Seg := [.one (.int .i64 y.seq), .one (.int .i64 y.c.k), .one (.int .i64 y.c.n), .one (.int .i64 y.c.d), .many 8 (u8s y.c.id), .one (.rs y.a y.b.length y.cap), .one (.int .i64 y.since)]
def Ly.cs (y : Ly) : List Value := dens [] y.sg
def Ly.ok (y : Ly) : Prop := y.c.id.length = 8
theorem Ly.okL {y : Ly} (h : y.ok) (B : Names) : okL B y.sg := ⟨trivial, trivial, trivial, trivial, many_ok h _, trivial, trivial, trivial⟩
theorem Ly.segLen (y : Ly) : segLen y.sg = 14 := rfl
theorem Ly.len {y : Ly} (h : y.ok) : y.cs.length = 14 := segLen_dens (okL_spec (Ly.okL h []))
theorem Ly.one {y : Ly} (h : y.ok) : ∀ v ∈ y.cs, v.oneCell' = true := dens_one_cell (okL_spec (Ly.okL h []))
def rowL (l : List Ly) : List Value := (l.map Ly.cs).flatten
def okA (l : List Ly) : Prop := ∀ y ∈ l, y.ok
theorem rowL_len {l : List Ly} (h : okA l) : (rowL l).length = l.length * 14 := by
  have := flatten_len (css := l.map Ly.cs) (n := 14) (fun c hc => by simp at hc; obtain ⟨y, hy, rfl⟩ := hc; exact Ly.len (h y hy))
  simpa [rowL] using this
theorem rowL_one {l : List Ly} (h : okA l) : ∀ v ∈ rowL l, v.oneCell' = true := by
  intro v hv
  simp only [rowL, List.mem_flatten, List.mem_map] at hv
  obtain ⟨_, ⟨y, hy, rfl⟩, hv⟩ := hv
  exact Ly.one (h y hy) v hv
theorem rowL_append (l m : List Ly) : rowL (l ++ m) = rowL l ++ rowL m := by simp [rowL]
theorem rowL_take {l : List Ly} (h : okA l) (k : Nat) : (rowL l).take (k * 14) = rowL (l.take k) := by
  by_cases hk : k ≤ l.length
  · have e : rowL l = rowL (l.take k) ++ rowL (l.drop k) := by rw [← rowL_append, List.take_append_drop]
    have hl : (rowL (l.take k)).length = k * 14 := by
      rw [rowL_len (fun y hy => h y (List.mem_of_mem_take hy)), List.length_take, Nat.min_eq_left hk]
    rw [e, ← hl, List.take_left]
  · rw [List.take_of_length_le (by rw [rowL_len h]; omega), List.take_of_length_le (by omega)]
theorem rowL_drop {l : List Ly} (h : okA l) (k : Nat) (hk : k ≤ l.length) : (rowL l).drop (k * 14) = rowL (l.drop k) := by
  have e : rowL l = rowL (l.take k) ++ rowL (l.drop k) := by rw [← rowL_append, List.take_append_drop]
  have hl : (rowL (l.take k)).length = k * 14 := by
    rw [rowL_len (fun y hy => h y (List.mem_of_mem_take hy)), List.length_take, Nat.min_eq_left hk]
  rw [e, ← hl, List.drop_left]
theorem rowL_set {l : List Ly} (h : okA l) {j : Nat} (hj : j < l.length) (y : Ly) : (rowL l).take (j * 14) ++ (y.cs ++ (rowL l).drop (j * 14 + 14)) = rowL (l.set j y) := by
  rw [show j * 14 + 14 = (j + 1) * 14 by omega, rowL_take h, rowL_drop h _ hj, List.set_eq_take_append_cons_drop, if_pos hj, rowL_append]
  simp [rowL]
/-- One entry is read. -/
theorem ldly {t : Nat} {x : TyX} {b off : Nat} {m : M} {f : SV → Prop} {A : HProp} {p : Nat × Nat} {l : List Ly} (i : Nat) (hA : A ∈ m.F) (hr : Rd A (some (radr p)) (rowL l)) (h : okA l) (hi : i < l.length)
    (hx : x.k.agg = true) (hn : x.size = 14) (hb : b = p.1) (ho : off = p.2 + i * 14) (hf : f (.agg l[i].sg)) : With (Ty Tryd.prog t x) (LdOb Tryd.prog t ⟨b, off, none⟩ m f) := by
  have hy : l[i].ok := h _ (List.getElem_mem hi)
  have k2 := oks_nil (okL_spec (Ly.okL hy [])) m.B
  refine lds (A := A) (i * 14) l[i].sg hx hA hr hb ho ?_ ?_ (by omega) k2.1 hf
  · rw [k2.2, hn, rowL_drop h _ (by omega), List.drop_eq_getElem_cons hi]
    show l[i].cs = (l[i].cs ++ _).take 14
    rw [← Ly.len hy, List.take_left]
  · rw [k2.2]; exact (Ly.len hy).trans hn.symm
def idxL (q : Ly → Bool) (l : List Ly) : Int := match l.findIdx? q with | some i => i | none => -1
theorem cutA0 (a : Option Addr) (m s : Nat) : cutA a m 0 s = a := by
  unfold cutA
  split
  · rfl
  · cases a <;> simp [Addr.add]
def lyZ : Value := .agg #[.int .i64 0, .int .i64 0, .int .i64 0, .int .i64 0, .int .u8 0, .int .u8 0, .int .u8 0, .int .u8 0, .int .u8 0, .int .u8 0, .int .u8 0, .int .u8 0, .slice none 0 0, .int .i64 0]
theorem lyZ_zero : (Tryd.prog.info? 79).bind (·.zero) = some lyZ := by kernel_rfl
abbrev cvp (c : Nat) : Value := .pointer (some ⟨c, 0, none⟩)
/-- A closure over one variable, which tells of entries. -/
def Tells (A : HProp) (fn c : Nat) (q : Ly → Bool) : Prop := ∀ A', Ent A' A → ∀ y : Ly, y.ok → Pu Tryd.prog fn [.agg y.sg, .c (.raw (cvp c))] A' (.c (.bool (q y)))
theorem Tells.ent {A A' : HProp} {fn c : Nat} {q : Ly → Bool} (h : Tells A fn c q) (e : Ent A' A) : Tells A' fn c q := fun _ e' y hy => h _ (e'.trans e) y hy
theorem indexL_c (A R : HProp) (hE : Ent A R) (fn c : Nat) (q : Ly → Bool) (hF : Tells A fn c q)
    (a : Option Addr) (cap : Nat) (l : List Ly) (h : okA l) (hr : Rd R a (rowL l)) (hs : l.length ≤ 1000000) :
    Pu Tryd.prog 50 [.c (.rs a l.length cap), .c (.raw (.func (.func fn) #[] #[cvp c]))] A (.c (.int .i64 (idxL q l))) := by
  refine Con.of' tt_ok Tryd.func50 rfl (by decide) [.c (.rs a l.length cap), .c (.raw (.func (.func fn) #[] #[cvp c]))] [] [] rfl rfl trivial (by repeat' (first | exact trivial | rfl | apply And.intro)) rfl ?_
  conv => whnf
  refine LoopOb.mk' (σ := Nat) (fun i => [(0, .c (.rs a l.length cap)), (1, .c (.raw (.func (.func fn) #[] #[cvp c]))), (7, .c (.int .i64 l.length)), (8, .c (.int .i64 i))])
    (fun _ => ⟨[], [], [A]⟩) (fun i => i ≤ l.length ∧ ∀ c ∈ l.take i, q c = false) (fun i => l.length - i) 0 ⟨Nat.zero_le _, by simp⟩ (Wk.mk' [] [0] ⟨⟨rfl, trivial⟩, ⟨rfl, rfl⟩, ⟨rfl, trivial⟩, ⟨rfl, trivial⟩, trivial⟩ (by repeat' (first | exact trivial | rfl | apply And.intro)) ⟨rfl, rfl⟩) ?_
  rintro i ⟨hi, hall⟩
  conv => whnf
  refine Cond.dec (fun h1 => ?_) (fun h1 => ?_)
  · have hi' : i < l.length := by omega
    conv => whnf
    refine ⟨by omega, PtrOb.rd (A := A) (by simp) (hr.ent hE) (by rw [rowL_len h]; omega) fun p hp => ?_⟩
    subst hp
    conv => whnf
    refine ldly i (A := A) (by simp) (hr.ent hE) h hi' rfl rfl rfl rfl ?_
    conv => whnf
    refine CallOb.pu (hF _ (Ent.all (by first | (simp; done) | (simp [M.props]; done) | (simp [M.props]; first | (left; rfl) | (right; left; rfl) | (right; right; left; rfl) | (right; right; right; left; rfl) | (right; right; right; right; left; rfl)) | exact (.head _ : List.Mem _ _) | exact (.tail _ (.head _) : List.Mem _ _) | exact (.tail _ (.tail _ (.head _)) : List.Mem _ _) | exact (.tail _ (.tail _ (.tail _ (.head _))) : List.Mem _ _) | exact (.tail _ (.tail _ (.tail _ (.tail _ (.head _)))) : List.Mem _ _) | exact (.tail _ (.tail _ (.tail _ (.tail _ (.tail _ (.head _))))) : List.Mem _ _) | exact (.tail _ (.tail _ (.tail _ (.tail _ (.tail _ (.tail _ (.head _)))))) : List.Mem _ _) | exact (.tail _ (.tail _ (.tail _ (.tail _ (.tail _ (.tail _ (.tail _ (.head _))))))) : List.Mem _ _) | exact (.tail _ (.tail _ (.tail _ (.tail _ (.tail _ (.tail _ (.tail _ (.tail _ (.head _)))))))) : List.Mem _ _))) l[i] (h _ (List.getElem_mem hi'))) rfl ?_
    conv => whnf
    refine Cond.mk (fun hq => ?_) (fun hq => ?_)
    · conv => whnf
      refine Ret.mk' () [] [0] trivial ?_ (by repeat' (first | exact trivial | rfl | apply And.intro)) (by repeat' (first | exact trivial | rfl | apply And.intro)) ⟨rfl, rfl⟩
      have : l.findIdx? q = some i := by
        rw [List.findIdx?_eq_some_iff_getElem]
        exact ⟨hi', hq, fun j hj => by
          have := hall l[j] (by rw [List.mem_take_iff_getElem]; exact ⟨j, by omega, rfl⟩)
          simp [this]⟩
      unfold idxL; rw [this]; rfl
    conv => whnf
    refine Ar.i64 (by omega) ?_
    conv => whnf
    refine ⟨i + 1, ⟨by omega, ?_⟩, by omega, Wk.mk' [] [0] ⟨⟨rfl, trivial⟩, ⟨rfl, rfl⟩, ⟨rfl, trivial⟩, ⟨rfl, trivial⟩, trivial⟩ (by repeat' (first | exact trivial | rfl | apply And.intro)) ⟨rfl, rfl⟩⟩
    intro y hy
    rw [List.take_succ_eq_append_getElem hi', List.mem_append, List.mem_singleton] at hy
    rcases hy with hy | rfl
    · exact hall y hy
    · exact hq
  have hi' : i = l.length := by omega
  subst hi'
  conv => whnf
  refine Ret.mk' () [] [0] trivial ?_ (by repeat' (first | exact trivial | rfl | apply And.intro)) (by repeat' (first | exact trivial | rfl | apply And.intro)) ⟨rfl, rfl⟩
  have : l.findIdx? q = none := by
    rw [List.findIdx?_eq_none_iff]
    intro y hy
    exact hall y (by rw [List.take_length]; exact hy)
  unfold idxL; rw [this]; rfl

/-- The row behind so many entries: those that stay, then what lay there. -/
def keep (q : Ly → Bool) (l : List Ly) (i : Nat) : List Ly := (l.take i).filter fun y => !q y
theorem keep_le (q : Ly → Bool) (l : List Ly) (i : Nat) : (keep q l i).length ≤ i := Nat.le_trans (List.length_filter_le _ _) (by rw [List.length_take]; omega)
def keepL (q : Ly → Bool) (l : List Ly) (i : Nat) : List Ly := keep q l i ++ l.drop (keep q l i).length
theorem keepL_len {q : Ly → Bool} {l : List Ly} {i : Nat} (hi : i ≤ l.length) : (keepL q l i).length = l.length := by
  have := keep_le q l i
  simp [keepL]; omega
theorem keepL_get {q : Ly → Bool} {l : List Ly} {i : Nat} (hi : i < l.length) : (keepL q l i)[i]? = some l[i] := by
  have := keep_le q l i
  unfold keepL
  rw [List.getElem?_append_right this, List.getElem?_drop, show (keep q l i).length + (i - (keep q l i).length) = i by omega, List.getElem?_eq_getElem hi]
theorem keep_succ {q : Ly → Bool} {l : List Ly} {i : Nat} (hi : i < l.length) : keep q l (i + 1) = keep q l i ++ if q l[i] then [] else [l[i]] := by
  unfold keep
  rw [List.take_succ_eq_append_getElem hi, List.filter_append]
  cases e : q l[i] <;> simp [e]
theorem okA_keepL {q : Ly → Bool} {l : List Ly} (h : okA l) (i : Nat) : okA (keepL q l i) := fun y hy => by
  rcases List.mem_append.1 hy with hy | hy
  · exact h y (List.mem_of_mem_take ((List.mem_filter.1 hy).1))
  · exact h y (List.mem_of_mem_drop hy)
theorem keepL_set {q : Ly → Bool} {l : List Ly} {i : Nat} (hi : i < l.length) (hq : q l[i] = false) : (keepL q l i).set (keep q l i).length l[i] = keepL q l (i + 1) := by
  have := keep_le q l i
  unfold keepL
  rw [keep_succ hi, hq, List.set_append_right _ _ (Nat.le_refl _), Nat.sub_self, List.drop_eq_getElem_cons (i := (keep q l i).length) (by omega), List.set_cons_zero]
  simp
theorem keepL_skip {q : Ly → Bool} {l : List Ly} {i : Nat} (hi : i < l.length) (hq : q l[i] = true) : keep q l (i + 1) = keep q l i := by rw [keep_succ hi, hq]; simp
theorem deleteL_c (A : HProp) (fn c : Nat) (q : Ly → Bool) (hF : Tells A fn c q)
    (a : Option Addr) (cap : Nat) (l : List Ly) (h : okA l) (hs : l.length ≤ 1000000) (hc : l.length ≤ cap) :
    Con Tryd.prog 29 [.c (.rs a l.length cap), .c (.raw (.func (.func fn) #[] #[cvp c]))] [] [Own a cap 79 14 (rowL l)] A (fun _ : Unit => True) (fun _ => .c (.rs a (l.filter fun y => !q y).length cap)) (fun _ => [])
      (fun _ => [Own a cap 79 14 (rowL (l.filter fun y => !q y))]) := by
  refine Con.of' tt_ok Tryd.func29 rfl (by decide) [.c (.rs a l.length cap), .c (.raw (.func (.func fn) #[] #[cvp c]))] [] [] rfl rfl trivial (by repeat' (first | exact trivial | rfl | apply And.intro)) rfl ?_
  conv => whnf
  refine CallOb.pu (indexL_c _ (Own a cap 79 14 (rowL l)) (Ent.all (by first | (simp; done) | (simp [M.props]; done) | (simp [M.props]; first | (left; rfl) | (right; left; rfl) | (right; right; left; rfl) | (right; right; right; left; rfl) | (right; right; right; right; left; rfl)) | exact (.head _ : List.Mem _ _) | exact (.tail _ (.head _) : List.Mem _ _) | exact (.tail _ (.tail _ (.head _)) : List.Mem _ _) | exact (.tail _ (.tail _ (.tail _ (.head _))) : List.Mem _ _) | exact (.tail _ (.tail _ (.tail _ (.tail _ (.head _)))) : List.Mem _ _) | exact (.tail _ (.tail _ (.tail _ (.tail _ (.tail _ (.head _))))) : List.Mem _ _) | exact (.tail _ (.tail _ (.tail _ (.tail _ (.tail _ (.tail _ (.head _)))))) : List.Mem _ _) | exact (.tail _ (.tail _ (.tail _ (.tail _ (.tail _ (.tail _ (.tail _ (.head _))))))) : List.Mem _ _) | exact (.tail _ (.tail _ (.tail _ (.tail _ (.tail _ (.tail _ (.tail _ (.tail _ (.head _)))))))) : List.Mem _ _))) fn c q (hF.ent (Ent.all (by first | (simp; done) | (simp [M.props]; done) | (simp [M.props]; first | (left; rfl) | (right; left; rfl) | (right; right; left; rfl) | (right; right; right; left; rfl) | (right; right; right; right; left; rfl)) | exact (.head _ : List.Mem _ _) | exact (.tail _ (.head _) : List.Mem _ _) | exact (.tail _ (.tail _ (.head _)) : List.Mem _ _) | exact (.tail _ (.tail _ (.tail _ (.head _))) : List.Mem _ _) | exact (.tail _ (.tail _ (.tail _ (.tail _ (.head _)))) : List.Mem _ _) | exact (.tail _ (.tail _ (.tail _ (.tail _ (.tail _ (.head _))))) : List.Mem _ _) | exact (.tail _ (.tail _ (.tail _ (.tail _ (.tail _ (.tail _ (.head _)))))) : List.Mem _ _) | exact (.tail _ (.tail _ (.tail _ (.tail _ (.tail _ (.tail _ (.tail _ (.head _))))))) : List.Mem _ _) | exact (.tail _ (.tail _ (.tail _ (.tail _ (.tail _ (.tail _ (.tail _ (.tail _ (.head _)))))))) : List.Mem _ _)))) a cap l h Own.rd hs) rfl ?_
  conv => whnf
  refine Cond.eqI (fun h1 => ?_) (fun h1 => ?_)
  · conv => whnf
    have hall : l.filter (fun y => !q y) = l := by
      rw [List.filter_eq_self]
      intro y hy
      unfold idxL at h1
      split at h1
      · omega
      · rename_i e
        rw [List.findIdx?_eq_none_iff] at e
        simp [e y hy]
    refine Ret.mk' () [] [0, 0] trivial (by rw [hall]; rfl) (by repeat' (first | exact trivial | rfl | apply And.intro)) (by repeat' (first | exact trivial | rfl | apply And.intro)) ⟨rfl, by rw [hall]; rfl⟩
  obtain ⟨i0, e0⟩ : ∃ i, l.findIdx? q = some i := by
    cases e : l.findIdx? q with
    | none => exact absurd (by unfold idxL; rw [e]) h1
    | some i => exact ⟨i, rfl⟩
  have e1 : idxL q l = i0 := by unfold idxL; rw [e0]
  rw [List.findIdx?_eq_some_iff_getElem] at e0
  obtain ⟨hi0, hq0, hb0⟩ := e0
  have k0 : keep q l i0 = l.take i0 := by
    unfold keep
    rw [List.filter_eq_self]
    intro y hy
    rw [List.mem_take_iff_getElem] at hy
    obtain ⟨j, hj, rfl⟩ := hy
    simpa using hb0 j (by omega)
  have k1 : keep q l (i0 + 1) = l.take i0 := by rw [keepL_skip hi0 hq0, k0]
  have k2 : keepL q l (i0 + 1) = l := by
    unfold keepL
    rw [k1, List.length_take, Nat.min_eq_left (by omega), List.take_append_drop]
  have k3 : (keep q l (i0 + 1)).length = i0 := by rw [k1, List.length_take]; omega
  rw [e1]
  conv => whnf
  refine Ar.i64 (by omega) ?_
  conv => whnf
  refine LoopOb.mk' (σ := Nat) (fun i => [(0, .c (.rs a l.length cap)), (1, .c (.raw (.func (.func fn) #[] #[cvp c]))), (5, .c (.int .i64 (keep q l i).length)), (6, .c (.int .i64 i))])
    (fun i => ⟨[], [], [Own a cap 79 14 (rowL (keepL q l i)), A]⟩) (fun i => i ≤ l.length) (fun i => l.length - i) (i0 + 1) (by omega)
    (Wk.mk' [] [0, 0] ⟨⟨rfl, trivial⟩, ⟨rfl, rfl⟩, ⟨by rw [k3]; rfl, trivial⟩, ⟨rfl, trivial⟩, trivial⟩ (by repeat' (first | exact trivial | rfl | apply And.intro)) ⟨rfl, by rw [k2]⟩) ?_
  intro i hi
  have hkl := keepL_len (q := q) hi
  have hok := okA_keepL (q := q) h i
  have hki := keep_le q l i
  conv => whnf
  refine Cond.dec (fun h2 => ?_) (fun h2 => ?_)
  · have hi' : i < l.length := by omega
    have hr : Rd (Own a cap 79 14 (rowL (keepL q l i))) a (rowL (keepL q l i)) := Own.rd
    conv => whnf
    refine ⟨by omega, PtrOb.rd (A := Own a cap 79 14 (rowL (keepL q l i))) (by simp) hr (by rw [rowL_len hok]; omega) fun p hp => ?_⟩
    subst hp
    conv => whnf
    refine ldly i (A := Own (some (radr p)) cap 79 14 (rowL (keepL q l i))) (by simp) hr hok (by omega) rfl rfl rfl rfl ?_
    have eg : (keepL q l i)[i]'(by omega) = l[i] := by
      have := keepL_get (q := q) hi'
      rw [List.getElem?_eq_getElem (by omega)] at this
      exact Option.some.inj this
    rw [eg]
    have hyo : l[i].ok := h _ (List.getElem_mem hi')
    have hnext := @keepL_set q l i hi'
    have hskip := @keepL_skip q l i hi'
    have hlen1 := @keep_succ q l i hi'
    generalize l[i] = y at hyo hnext hskip hlen1 ⊢
    conv => whnf
    intro b7
    conv => whnf
    refine CallOb.pu (hF _ (Ent.all (by first | (simp; done) | (simp [M.props]; done) | (simp [M.props]; first | (left; rfl) | (right; left; rfl) | (right; right; left; rfl) | (right; right; right; left; rfl) | (right; right; right; right; left; rfl)) | exact (.head _ : List.Mem _ _) | exact (.tail _ (.head _) : List.Mem _ _) | exact (.tail _ (.tail _ (.head _)) : List.Mem _ _) | exact (.tail _ (.tail _ (.tail _ (.head _))) : List.Mem _ _) | exact (.tail _ (.tail _ (.tail _ (.tail _ (.head _)))) : List.Mem _ _) | exact (.tail _ (.tail _ (.tail _ (.tail _ (.tail _ (.head _))))) : List.Mem _ _) | exact (.tail _ (.tail _ (.tail _ (.tail _ (.tail _ (.tail _ (.head _)))))) : List.Mem _ _) | exact (.tail _ (.tail _ (.tail _ (.tail _ (.tail _ (.tail _ (.tail _ (.head _))))))) : List.Mem _ _) | exact (.tail _ (.tail _ (.tail _ (.tail _ (.tail _ (.tail _ (.tail _ (.tail _ (.head _)))))))) : List.Mem _ _))) y hyo) rfl ?_
    conv => whnf
    refine Cond.not (Cond.mk (fun hq => ?_) (fun hq => ?_))
    · conv => whnf
      refine Ar.i64 (by omega) ?_
      conv => whnf
      have hs1 := hskip hq
      refine ⟨i + 1, by omega, by omega, Wk.mk' [] [0, 0] ⟨⟨rfl, trivial⟩, ⟨rfl, rfl⟩, ⟨by rw [hs1]; rfl, trivial⟩, ⟨rfl, trivial⟩, trivial⟩ (by repeat' (first | exact trivial | rfl | apply And.intro)) ⟨rfl, ?_⟩⟩
      have : keepL q l (i + 1) = keepL q l i := by unfold keepL; rw [hs1]
      rw [this]
    conv => whnf
    refine ⟨by omega, PtrOb.rd (A := Own (some (radr p)) cap 79 14 (rowL (keepL q l i))) (by simp) hr (by rw [rowL_len hok]; omega) fun p' hp' => ?_⟩
    obtain rfl := radr_inj hp'
    conv => whnf
    refine st_own (j := (keep q l i).length * 14) (ys := y.cs) (.refl _) rfl (by show _ + ((keep q l i).length : Int).toNat * 14 = _; omega) rfl (Ly.len hyo) (Ly.one hyo) (by rw [rowL_len hok, hkl]; show (keep q l i).length * 14 + 14 ≤ _; omega) ?_
    have es : (rowL (keepL q l i)).take ((keep q l i).length * 14) ++ (y.cs ++ (rowL (keepL q l i)).drop ((keep q l i).length * 14 + 14)) = rowL (keepL q l (i + 1)) := by
      rw [rowL_set hok (by omega), hnext hq]
    have es' : ∀ n, n = 14 → (rowL (keepL q l i)).take ((keep q l i).length * 14) ++ (y.cs ++ (rowL (keepL q l i)).drop ((keep q l i).length * 14 + n)) = rowL (keepL q l (i + 1)) := fun n hn => by rw [hn]; exact es
    rw [es' _ rfl]
    conv => whnf
    refine Ar.i64 (by omega) ?_
    conv => whnf
    refine Ar.i64 (by omega) ?_
    conv => whnf
    refine ⟨i + 1, by omega, by omega, Wk.mk' [] [0, 0] ⟨⟨rfl, trivial⟩, ⟨rfl, rfl⟩, ⟨?_, trivial⟩, ⟨rfl, trivial⟩, trivial⟩ (by repeat' (first | exact trivial | rfl | apply And.intro)) ⟨rfl, rfl⟩⟩
    show Value.int .i64 (((keep q l i).length : Int) + 1) = Value.int .i64 ((keep q l (i + 1)).length : Int)
    rw [hlen1, hq]; simp
  have hi' : i = l.length := by omega
  subst hi'
  have ef : keep q l l.length = l.filter fun y => !q y := by unfold keep; rw [List.take_length]
  have efl : (l.filter fun y => !q y).length ≤ l.length := List.length_filter_le _ _
  rw [ef] at hki ⊢
  conv => whnf
  refine ⟨by omega, ?_⟩
  conv => whnf
  have ec := rowL_take (okA_keepL (q := q) h l.length) (l.filter fun y => !q y).length
  have ek : (keepL q l l.length).take (l.filter fun y => !q y).length = l.filter fun y => !q y := by unfold keepL; rw [ef, List.take_left]
  rw [ek] at ec
  refine clear_own (a := a) (n := l.length) (j := (l.filter fun y => !q y).length) (k := l.length - (l.filter fun y => !q y).length) Tryd.underlying73 lyZ_zero (size := 14) rfl (by unfold lyZ; decide) (.refl _) (by rw [rowL_len hok, hkl]) (by omega) hc ?_
  rw [ec]
  conv => whnf
  refine ⟨by omega, ?_⟩
  conv => whnf
  refine Ret.mk' () [] [0, 0] trivial ?_ (by repeat' (first | exact trivial | rfl | apply And.intro)) (by repeat' (first | exact trivial | rfl | apply And.intro)) ⟨rfl, rfl⟩
  show Value.slice (cutA a (cap : Int).toNat 0 14) _ _ = Value.slice a _ _
  rw [cutA0]; rfl
end Go.Proofs.YtiimeklgjoclpaaDoor
