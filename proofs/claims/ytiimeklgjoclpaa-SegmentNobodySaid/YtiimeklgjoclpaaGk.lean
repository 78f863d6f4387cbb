/- Messages that come in pieces: rows of pointers; those that go. -/
import Derived.Test.YtiimeklgjoclpaaGj
namespace Go.Proofs.Ytiimeklgjoclpaa
open Go.Sx
set_option maxRecDepth 100000
set_option pp.deepTerms false
set_option pp.maxSteps 300
set_option linter.unusedSimpArgs false
set_option linter.unusedVariables false

/-- A part of a message, if it has come. -/
structure Sl where
  b : Option (List UInt8)
  x : AC
def Sl.v (s : Sl) : Value := .slice s.x.1 (s.b.getD []).length s.x.2
/-- A message that is not whole as yet: its block, whose it is, its parts, how many lack. -/
structure Mg where
  h : Nat
  u : Int
  n : Int
  since : Int
  left : Int
  ss : List Sl
  a : AC
def Mg.cs (y : Mg) : List Value := [ptr y.h]
theorem Mg.len (y : Mg) : y.cs.length = 1 := rfl
theorem Mg.one (y : Mg) : ∀ v ∈ y.cs, v.oneCell' = true := by intro v hv; simp [Mg.cs] at hv; subst hv; rfl
def rowM (l : List Mg) : List Value := l.map fun y => ptr y.h
theorem rowM_len (l : List Mg) : (rowM l).length = l.length * 1 := by simp [rowM]
theorem rowM_get {l : List Mg} {i : Nat} (h : i < l.length) : (rowM l)[i]? = some (ptr l[i].h) := by simp [rowM, h]
theorem rowM_take (l : List Mg) (k : Nat) : (rowM l).take (k * 1) = rowM (l.take k) := by simp [rowM, List.map_take]
theorem rowM_set {l : List Mg} {j : Nat} (hj : j < l.length) (y : Mg) : (rowM l).take (j * 1) ++ (y.cs ++ (rowM l).drop (j * 1 + 1)) = rowM (l.set j y) := by
  unfold rowM
  rw [List.set_eq_take_append_cons_drop, if_pos hj]
  simp [Mg.cs, List.map_take, List.map_drop]
/-- One pointer is read. -/
theorem ldmg {t : Nat} {x : TyX} {b off : Nat} {m : M} {f : SV → Prop} {A : HProp} {p : Nat × Nat} {l : List Mg} (i : Nat) (hA : A ∈ m.F) (hr : Rd A (some (radr p)) (rowM l)) (hi : i < l.length)
    (hx : x.k.agg = false) (hb : b = p.1) (ho : off = p.2 + i * 1) (hf : f (.c (.rp l[i].h 0))) : With (Ty Try.prog t x) (LdOb Try.prog t ⟨b, off, none⟩ m f) :=
  ld i (.rp l[i].h 0) hx hA hr hb (by omega) (by rw [rowM_get hi]; rfl) trivial hf
def idxM (q : Mg → Bool) (l : List Mg) : Int := match l.findIdx? q with | some i => i | none => -1
theorem cutA0 (a : Option Addr) (m s : Nat) : cutA a m 0 s = a := by
  unfold cutA
  split
  · rfl
  · cases a <;> simp [Addr.add]
def mgZ : Value := .pointer none
theorem mgZ_zero : (Try.prog.info? 97).bind (·.zero) = some mgZ := by kernel_rfl
abbrev cvp (c : Nat) : Value := .pointer (some ⟨c, 0, none⟩)
/-- A closure over one variable, which tells of entries. -/
def TellsM (A : HProp) (fn c : Nat) (q : Mg → Bool) (l : List Mg) : Prop := ∀ A', Ent A' A → ∀ y ∈ l, Pu Try.prog fn [.c (.rp y.h 0), .c (.raw (cvp c))] A' (.c (.bool (q y)))
theorem TellsM.ent {A A' : HProp} {fn c : Nat} {q : Mg → Bool} {l : List Mg} (h : TellsM A fn c q l) (e : Ent A' A) : TellsM A' fn c q l := fun _ e' y hy => h _ (e'.trans e) y hy
theorem indexM_c (A R : HProp) (hE : Ent A R) (fn c : Nat) (q : Mg → Bool) (a : Option Addr) (cap : Nat) (l : List Mg) (hF : TellsM A fn c q l)  (hr : Rd R a (rowM l)) (hs : l.length ≤ 1000000) :
    Pu Try.prog 62 [.c (.rs a l.length cap), .c (.raw (.func (.func fn) #[] #[cvp c]))] A (.c (.int .i64 (idxM q l))) := by
  refine Con.of' tt_ok Try.func62 rfl (by decide) [.c (.rs a l.length cap), .c (.raw (.func (.func fn) #[] #[cvp c]))] [] [] rfl rfl trivial (by repeat' (first | exact trivial | rfl | apply And.intro)) rfl ?_
  conv => whnf
  refine LoopOb.mk' (σ := Nat) (fun i => [(0, .c (.rs a l.length cap)), (1, .c (.raw (.func (.func fn) #[] #[cvp c]))), (7, .c (.int .i64 l.length)), (8, .c (.int .i64 i))])
    (fun _ => ⟨[], [], [A]⟩) (fun i => i ≤ l.length ∧ ∀ c ∈ l.take i, q c = false) (fun i => l.length - i) 0 ⟨Nat.zero_le _, by simp⟩ (Wk.mk' [] [0] ⟨⟨rfl, trivial⟩, ⟨rfl, rfl⟩, ⟨rfl, trivial⟩, ⟨rfl, trivial⟩, trivial⟩ (by repeat' (first | exact trivial | rfl | apply And.intro)) ⟨rfl, rfl⟩) ?_
  rintro i ⟨hi, hall⟩
  conv => whnf
  refine Cond.dec (fun h1 => ?_) (fun h1 => ?_)
  · have hi' : i < l.length := by omega
    conv => whnf
    refine ⟨by omega, PtrOb.rd (A := A) (by simp) (hr.ent hE) (by rw [rowM_len _]; omega) fun p hp => ?_⟩
    subst hp
    conv => whnf
    refine ldmg i (A := A) (by simp) (hr.ent hE) hi' rfl rfl rfl ?_
    conv => whnf
    refine CallOb.pu (hF _ (Ent.all (by first | (simp; done) | (simp [M.props]; done) | (simp [M.props]; first | (left; rfl) | (right; left; rfl) | (right; right; left; rfl) | (right; right; right; left; rfl) | (right; right; right; right; left; rfl)) | exact (.head _ : List.Mem _ _) | exact (.tail _ (.head _) : List.Mem _ _) | exact (.tail _ (.tail _ (.head _)) : List.Mem _ _) | exact (.tail _ (.tail _ (.tail _ (.head _))) : List.Mem _ _) | exact (.tail _ (.tail _ (.tail _ (.tail _ (.head _)))) : List.Mem _ _) | exact (.tail _ (.tail _ (.tail _ (.tail _ (.tail _ (.head _))))) : List.Mem _ _) | exact (.tail _ (.tail _ (.tail _ (.tail _ (.tail _ (.tail _ (.head _)))))) : List.Mem _ _) | exact (.tail _ (.tail _ (.tail _ (.tail _ (.tail _ (.tail _ (.tail _ (.head _))))))) : List.Mem _ _) | exact (.tail _ (.tail _ (.tail _ (.tail _ (.tail _ (.tail _ (.tail _ (.tail _ (.head _)))))))) : List.Mem _ _))) l[i] (List.getElem_mem hi')) rfl ?_
    conv => whnf
    refine Cond.mk (fun hq => ?_) (fun hq => ?_)
    · conv => whnf
      refine Ret.mk' () [] [0] trivial ?_ (by repeat' (first | exact trivial | rfl | apply And.intro)) (by repeat' (first | exact trivial | rfl | apply And.intro)) ⟨rfl, rfl⟩
      have : l.findIdx? q = some i := by
        rw [List.findIdx?_eq_some_iff_getElem]
        exact ⟨hi', hq, fun j hj => by
          have := hall l[j] (by rw [List.mem_take_iff_getElem]; exact ⟨j, by omega, rfl⟩)
          simp [this]⟩
      unfold idxM; rw [this]; rfl
    conv => whnf
    refine Ar.i64 (by omega) ?_
    conv => whnf
    refine ⟨i + 1, ⟨by omega, ?_⟩, by omega, Wk.mk' [] [0] ⟨⟨rfl, trivial⟩, ⟨rfl, rfl⟩, ⟨rfl, trivial⟩, ⟨rfl, trivial⟩, trivial⟩ (by repeat' (first | exact trivial | rfl | apply And.intro)) ⟨rfl, rfl⟩⟩
    intro y hy
    rw [List.take_succ_eq_append_getElem hi', List.mem_append, List.mem_singleton] at hy
    rcases hy with hy | rfl
    · exact hall y hy
    · exact hq
  have hi' : i = l.length := by omega
  subst hi'
  conv => whnf
  refine Ret.mk' () [] [0] trivial ?_ (by repeat' (first | exact trivial | rfl | apply And.intro)) (by repeat' (first | exact trivial | rfl | apply And.intro)) ⟨rfl, rfl⟩
  have : l.findIdx? q = none := by
    rw [List.findIdx?_eq_none_iff]
    intro y hy
    exact hall y (by rw [List.take_length]; exact hy)
  unfold idxM; rw [this]; rfl

/-- The row behind so many entries: those that stay, then what lay there. -/
def keep (q : Mg → Bool) (l : List Mg) (i : Nat) : List Mg := (l.take i).filter fun y => !q y
theorem keep_le (q : Mg → Bool) (l : List Mg) (i : Nat) : (keep q l i).length ≤ i := Nat.le_trans (List.length_filter_le _ _) (by rw [List.length_take]; omega)
def keepM (q : Mg → Bool) (l : List Mg) (i : Nat) : List Mg := keep q l i ++ l.drop (keep q l i).length
theorem keepM_len {q : Mg → Bool} {l : List Mg} {i : Nat} (hi : i ≤ l.length) : (keepM q l i).length = l.length := by
  have := keep_le q l i
  simp [keepM]; omega
theorem keepM_get {q : Mg → Bool} {l : List Mg} {i : Nat} (hi : i < l.length) : (keepM q l i)[i]? = some l[i] := by
  have := keep_le q l i
  unfold keepM
  rw [List.getElem?_append_right this, List.getElem?_drop, show (keep q l i).length + (i - (keep q l i).length) = i by omega, List.getElem?_eq_getElem hi]
theorem keep_succ {q : Mg → Bool} {l : List Mg} {i : Nat} (hi : i < l.length) : keep q l (i + 1) = keep q l i ++ if q l[i] then [] else [l[i]] := by
  unfold keep
  rw [List.take_succ_eq_append_getElem hi, List.filter_append]
  cases e : q l[i] <;> simp [e]
theorem keepM_set {q : Mg → Bool} {l : List Mg} {i : Nat} (hi : i < l.length) (hq : q l[i] = false) : (keepM q l i).set (keep q l i).length l[i] = keepM q l (i + 1) := by
  have := keep_le q l i
  unfold keepM
  rw [keep_succ hi, hq, List.set_append_right _ _ (Nat.le_refl _), Nat.sub_self, List.drop_eq_getElem_cons (i := (keep q l i).length) (by omega), List.set_cons_zero]
  simp
theorem keepM_skip {q : Mg → Bool} {l : List Mg} {i : Nat} (hi : i < l.length) (hq : q l[i] = true) : keep q l (i + 1) = keep q l i := by rw [keep_succ hi, hq]; simp
theorem deleteM_c (A : HProp) (fn c : Nat) (q : Mg → Bool) (a : Option Addr) (cap : Nat) (l : List Mg) (hF : TellsM A fn c q l)  (hs : l.length ≤ 1000000) (hc : l.length ≤ cap) :
    Con Try.prog 46 [.c (.rs a l.length cap), .c (.raw (.func (.func fn) #[] #[cvp c]))] [] [Own a cap 97 1 (rowM l)] A (fun _ : Unit => True) (fun _ => .c (.rs a (l.filter fun y => !q y).length cap)) (fun _ => [])
      (fun _ => [Own a cap 97 1 (rowM (l.filter fun y => !q y))]) := by
  refine Con.of' tt_ok Try.func46 rfl (by decide) [.c (.rs a l.length cap), .c (.raw (.func (.func fn) #[] #[cvp c]))] [] [] rfl rfl trivial (by repeat' (first | exact trivial | rfl | apply And.intro)) rfl ?_
  conv => whnf
  refine CallOb.pu (indexM_c _ (Own a cap 97 1 (rowM l)) (Ent.all (by first | (simp; done) | (simp [M.props]; done) | (simp [M.props]; first | (left; rfl) | (right; left; rfl) | (right; right; left; rfl) | (right; right; right; left; rfl) | (right; right; right; right; left; rfl)) | exact (.head _ : List.Mem _ _) | exact (.tail _ (.head _) : List.Mem _ _) | exact (.tail _ (.tail _ (.head _)) : List.Mem _ _) | exact (.tail _ (.tail _ (.tail _ (.head _))) : List.Mem _ _) | exact (.tail _ (.tail _ (.tail _ (.tail _ (.head _)))) : List.Mem _ _) | exact (.tail _ (.tail _ (.tail _ (.tail _ (.tail _ (.head _))))) : List.Mem _ _) | exact (.tail _ (.tail _ (.tail _ (.tail _ (.tail _ (.tail _ (.head _)))))) : List.Mem _ _) | exact (.tail _ (.tail _ (.tail _ (.tail _ (.tail _ (.tail _ (.tail _ (.head _))))))) : List.Mem _ _) | exact (.tail _ (.tail _ (.tail _ (.tail _ (.tail _ (.tail _ (.tail _ (.tail _ (.head _)))))))) : List.Mem _ _))) fn c q a cap l (hF.ent (Ent.all (by first | (simp; done) | (simp [M.props]; done) | (simp [M.props]; first | (left; rfl) | (right; left; rfl) | (right; right; left; rfl) | (right; right; right; left; rfl) | (right; right; right; right; left; rfl)) | exact (.head _ : List.Mem _ _) | exact (.tail _ (.head _) : List.Mem _ _) | exact (.tail _ (.tail _ (.head _)) : List.Mem _ _) | exact (.tail _ (.tail _ (.tail _ (.head _))) : List.Mem _ _) | exact (.tail _ (.tail _ (.tail _ (.tail _ (.head _)))) : List.Mem _ _) | exact (.tail _ (.tail _ (.tail _ (.tail _ (.tail _ (.head _))))) : List.Mem _ _) | exact (.tail _ (.tail _ (.tail _ (.tail _ (.tail _ (.tail _ (.head _)))))) : List.Mem _ _) | exact (.tail _ (.tail _ (.tail _ (.tail _ (.tail _ (.tail _ (.tail _ (.head _))))))) : List.Mem _ _) | exact (.tail _ (.tail _ (.tail _ (.tail _ (.tail _ (.tail _ (.tail _ (.tail _ (.head _)))))))) : List.Mem _ _)))) Own.rd hs) rfl ?_
  conv => whnf
  refine Cond.eqI (fun h1 => ?_) (fun h1 => ?_)
  · conv => whnf
    have hall : l.filter (fun y => !q y) = l := by
      rw [List.filter_eq_self]
      intro y hy
      unfold idxM at h1
      split at h1
      · omega
      · rename_i e
        rw [List.findIdx?_eq_none_iff] at e
        simp [e y hy]
    refine Ret.mk' () [] [0, 0] trivial (by rw [hall]; rfl) (by repeat' (first | exact trivial | rfl | apply And.intro)) (by repeat' (first | exact trivial | rfl | apply And.intro)) ⟨rfl, by rw [hall]; rfl⟩
  obtain ⟨i0, e0⟩ : ∃ i, l.findIdx? q = some i := by
    cases e : l.findIdx? q with
    | none => exact absurd (by unfold idxM; rw [e]) h1
    | some i => exact ⟨i, rfl⟩
  have e1 : idxM q l = i0 := by unfold idxM; rw [e0]
  rw [List.findIdx?_eq_some_iff_getElem] at e0
  obtain ⟨hi0, hq0, hb0⟩ := e0
  have k0 : keep q l i0 = l.take i0 := by
    unfold keep
    rw [List.filter_eq_self]
    intro y hy
    rw [List.mem_take_iff_getElem] at hy
    obtain ⟨j, hj, rfl⟩ := hy
    simpa using hb0 j (by omega)
  have k1 : keep q l (i0 + 1) = l.take i0 := by rw [keepM_skip hi0 hq0, k0]
  have k2 : keepM q l (i0 + 1) = l := by
    unfold keepM
    rw [k1, List.length_take, Nat.min_eq_left (by omega), List.take_append_drop]
  have k3 : (keep q l (i0 + 1)).length = i0 := by rw [k1, List.length_take]; omega
  rw [e1]
  conv => whnf
  refine Ar.i64 (by omega) ?_
  conv => whnf
  refine LoopOb.mk' (σ := Nat) (fun i => [(0, .c (.rs a l.length cap)), (1, .c (.raw (.func (.func fn) #[] #[cvp c]))), (5, .c (.int .i64 (keep q l i).length)), (6, .c (.int .i64 i))])
    (fun i => ⟨[], [], [Own a cap 97 1 (rowM (keepM q l i)), A]⟩) (fun i => i ≤ l.length) (fun i => l.length - i) (i0 + 1) (by omega)
    (Wk.mk' [] [0, 0] ⟨⟨rfl, trivial⟩, ⟨rfl, rfl⟩, ⟨by rw [k3]; rfl, trivial⟩, ⟨rfl, trivial⟩, trivial⟩ (by repeat' (first | exact trivial | rfl | apply And.intro)) ⟨rfl, by rw [k2]⟩) ?_
  intro i hi
  have hkl := keepM_len (q := q) hi
  have hki := keep_le q l i
  conv => whnf
  refine Cond.dec (fun h2 => ?_) (fun h2 => ?_)
  · have hi' : i < l.length := by omega
    have hr : Rd (Own a cap 97 1 (rowM (keepM q l i))) a (rowM (keepM q l i)) := Own.rd
    conv => whnf
    refine ⟨by omega, PtrOb.rd (A := Own a cap 97 1 (rowM (keepM q l i))) (by simp) hr (by rw [rowM_len _]; omega) fun p hp => ?_⟩
    subst hp
    conv => whnf
    refine ldmg i (A := Own (some (radr p)) cap 97 1 (rowM (keepM q l i))) (by simp) hr (by omega) rfl rfl rfl ?_
    have eg : (keepM q l i)[i]'(by omega) = l[i] := by
      have := keepM_get (q := q) hi'
      rw [List.getElem?_eq_getElem (by omega)] at this
      exact Option.some.inj this
    rw [eg]
    have hyo : l[i] ∈ l := List.getElem_mem hi'
    have hnext := @keepM_set q l i hi'
    have hskip := @keepM_skip q l i hi'
    have hlen1 := @keep_succ q l i hi'
    generalize l[i] = y at hyo hnext hskip hlen1 ⊢
    conv => whnf
    refine CallOb.pu (hF _ (Ent.all (by first | (simp; done) | (simp [M.props]; done) | (simp [M.props]; first | (left; rfl) | (right; left; rfl) | (right; right; left; rfl) | (right; right; right; left; rfl) | (right; right; right; right; left; rfl)) | exact (.head _ : List.Mem _ _) | exact (.tail _ (.head _) : List.Mem _ _) | exact (.tail _ (.tail _ (.head _)) : List.Mem _ _) | exact (.tail _ (.tail _ (.tail _ (.head _))) : List.Mem _ _) | exact (.tail _ (.tail _ (.tail _ (.tail _ (.head _)))) : List.Mem _ _) | exact (.tail _ (.tail _ (.tail _ (.tail _ (.tail _ (.head _))))) : List.Mem _ _) | exact (.tail _ (.tail _ (.tail _ (.tail _ (.tail _ (.tail _ (.head _)))))) : List.Mem _ _) | exact (.tail _ (.tail _ (.tail _ (.tail _ (.tail _ (.tail _ (.tail _ (.head _))))))) : List.Mem _ _) | exact (.tail _ (.tail _ (.tail _ (.tail _ (.tail _ (.tail _ (.tail _ (.tail _ (.head _)))))))) : List.Mem _ _))) y hyo) rfl ?_
    conv => whnf
    refine Cond.not (Cond.mk (fun hq => ?_) (fun hq => ?_))
    · conv => whnf
      refine Ar.i64 (by omega) ?_
      conv => whnf
      have hs1 := hskip hq
      refine ⟨i + 1, by omega, by omega, Wk.mk' [] [0, 0] ⟨⟨rfl, trivial⟩, ⟨rfl, rfl⟩, ⟨by rw [hs1]; rfl, trivial⟩, ⟨rfl, trivial⟩, trivial⟩ (by repeat' (first | exact trivial | rfl | apply And.intro)) ⟨rfl, ?_⟩⟩
      have : keepM q l (i + 1) = keepM q l i := by unfold keepM; rw [hs1]
      rw [this]
    conv => whnf
    refine ⟨by omega, PtrOb.rd (A := Own (some (radr p)) cap 97 1 (rowM (keepM q l i))) (by simp) hr (by rw [rowM_len _]; omega) fun p' hp' => ?_⟩
    obtain rfl := radr_inj hp'
    conv => whnf
    refine st_own (j := (keep q l i).length * 1) (ys := y.cs) (.refl _) rfl (by show _ + ((keep q l i).length : Int).toNat * 1 = _; omega) rfl (Mg.len y) (Mg.one y) (by rw [rowM_len _, hkl]; show (keep q l i).length * 1 + 1 ≤ _; omega) ?_
    have es : (rowM (keepM q l i)).take ((keep q l i).length * 1) ++ (y.cs ++ (rowM (keepM q l i)).drop ((keep q l i).length * 1 + 1)) = rowM (keepM q l (i + 1)) := by
      rw [rowM_set (by omega), hnext hq]
    have es' : ∀ n, n = 1 → (rowM (keepM q l i)).take ((keep q l i).length * 1) ++ (y.cs ++ (rowM (keepM q l i)).drop ((keep q l i).length * 1 + n)) = rowM (keepM q l (i + 1)) := fun n hn => by rw [hn]; exact es
    rw [es' _ rfl]
    conv => whnf
    refine Ar.i64 (by omega) ?_
    conv => whnf
    refine Ar.i64 (by omega) ?_
    conv => whnf
    refine ⟨i + 1, by omega, by omega, Wk.mk' [] [0, 0] ⟨⟨rfl, trivial⟩, ⟨rfl, rfl⟩, ⟨?_, trivial⟩, ⟨rfl, trivial⟩, trivial⟩ (by repeat' (first | exact trivial | rfl | apply And.intro)) ⟨rfl, rfl⟩⟩
    show Value.int .i64 (((keep q l i).length : Int) + 1) = Value.int .i64 ((keep q l (i + 1)).length : Int)
    rw [hlen1, hq]; simp
  have hi' : i = l.length := by omega
  subst hi'
  have ef : keep q l l.length = l.filter fun y => !q y := by unfold keep; rw [List.take_length]
  have efl : (l.filter fun y => !q y).length ≤ l.length := List.length_filter_le _ _
  rw [ef] at hki ⊢
  conv => whnf
  refine ⟨by omega, ?_⟩
  conv => whnf
  have ec := rowM_take (keepM q l l.length) (l.filter fun y => !q y).length
  have ek : (keepM q l l.length).take (l.filter fun y => !q y).length = l.filter fun y => !q y := by unfold keepM; rw [ef, List.take_left]
  rw [ek] at ec
  refine clear_own (a := a) (n := l.length) (j := (l.filter fun y => !q y).length) (k := l.length - (l.filter fun y => !q y).length) Try.underlying69 mgZ_zero (size := 1) rfl (by intro v hv; simp [mgZ, Value.cells] at hv; subst hv; rfl) (.refl _) (by rw [rowM_len _, hkl]) (by omega) hc ?_
  rw [ec]
  conv => whnf
  refine ⟨by omega, ?_⟩
  conv => whnf
  refine Ret.mk' () [] [0, 0] trivial ?_ (by repeat' (first | exact trivial | rfl | apply And.intro)) (by repeat' (first | exact trivial | rfl | apply And.intro)) ⟨rfl, rfl⟩
  show Value.slice (cutA a (cap : Int).toNat 0 1) _ _ = Value.slice a _ _
  rw [cutA0]; rfl
end Go.Proofs.Ytiimeklgjoclpaa
