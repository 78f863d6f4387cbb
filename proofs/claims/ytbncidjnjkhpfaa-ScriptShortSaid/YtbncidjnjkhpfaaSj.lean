/- Encode, the program's. -/
import Derived.Test.YtbncidjnjkhpfaaSi
namespace Go.Proofs.Ytbncidjnjkhpfaa
open Go.Sx
set_option maxRecDepth 100000
set_option pp.deepTerms false
set_option pp.maxSteps 300
set_option linter.unusedSimpArgs false

def enc1 (s : Stp) : List UInt8 := beb s.k 1 ++ beb s.a (shp s.k).1 ++ beb s.b (shp s.k).2.1 ++ beb s.c (shp s.k).2.2.1 ++ beb s.t.length (shp s.k).2.2.2 ++ s.t
def encP (l : List Stp) : List UInt8 × Int := if l.all mayP = false then ([], 2) else if l.length > 200 then ([], 3) else (l.flatMap enc1, 0)
theorem may_text {s : Stp} (h : mayP s = true) : s.t.length ≤ 255 := by
  unfold mayP at h
  split at h
  · cases h
  · simp only [Bool.and_eq_true] at h
    have h4 := h.2
    have h5 := (shp_le s.k).2.2.2
    rcases Nat.le_one_iff_eq_zero_or_eq_one.1 h5 with e | e <;> rw [e] at h4 <;> simp [rm] at h4
    · simp [h4]
    · omega
theorem enc1_len {s : Stp} (h : mayP s = true) : (enc1 s).length ≤ 261 := by
  have h1 := may_text h
  have h2 := shp_le s.k
  simp only [enc1, List.length_append, beb_len]
  omega
theorem flat_len (l : List Stp) (h : l.all mayP = true) : (l.flatMap enc1).length ≤ l.length * 261 := by
  induction l with
  | nil => simp
  | cons s r ih =>
    simp only [List.all_cons, Bool.and_eq_true] at h
    have := enc1_len h.1
    have := ih h.2
    simp only [List.flatMap_cons, List.length_append, List.length_cons]
    omega

structure ES where
  i : Nat
  a : Option Addr
  cap : Nat

theorem encode_c (A R Q : HProp) (hE : Ent A R) (hQ : Ent A Q) (a : Option Addr) (cap : Nat) (l : List Stp) (hrow : Row R a 5 (StepE Q) l) (hl : l.length ≤ 300) :
    Con Try.prog 15 [.c (.rs a l.length cap)] [] [] A (fun x : Option Addr × Nat × HProp => Bts x.2.2 x.1 x.2.1 (encP l).1) (fun x => .tup [.c (.rs x.1 (encP l).1.length x.2.1), .c (.int .i64 (encP l).2)]) (fun _ => []) (fun x => [x.2.2]) := by
  refine Con.of' tt_ok Try.func15 rfl (by decide) [.c (.rs a l.length cap)] [] [] rfl rfl trivial (by repeat' (first | exact trivial | apply And.intro)) rfl ?_
  conv => whnf
  intro b4
  conv => whnf
  refine LoopOb.mk' (σ := ES) (fun s => [(0, .c (.rs a l.length cap)), (4, .c (.ptr 4 0)), (5, .c (.raw (.func (.func 26) #[] #[.pointer (some ⟨b4, 0, none⟩)]))), (13, .c (.rs a l.length cap)), (14, .c (.int .i64 l.length)), (15, .c (.int .i64 s.i))])
    (fun s => ⟨[(4, b4)], [(4, [.one (.rs s.a ((l.take s.i).flatMap enc1).length s.cap)], 22)], [Own s.a s.cap 5 1 (u8s ((l.take s.i).flatMap enc1)), A]⟩)
    (fun s => s.i ≤ l.length ∧ (l.take s.i).all mayP = true ∧ ((l.take s.i).flatMap enc1).length ≤ s.cap ∧ (s.a = none → (l.take s.i).flatMap enc1 = [])) (fun s => l.length - s.i) ⟨0, none, 0⟩ ⟨Nat.zero_le _, rfl, Nat.le_refl _, fun _ => rfl⟩ ?_ ?_
  · refine Wk.own0 5 1 ?_
    exact Wk.mk' [4] [0, 0] ⟨⟨rfl, trivial⟩, ⟨rfl, trivial⟩, ⟨rfl, rfl⟩, ⟨rfl, trivial⟩, ⟨rfl, trivial⟩, ⟨rfl, trivial⟩, trivial⟩ (by repeat' (first | exact trivial | apply And.intro)) ⟨rfl, rfl⟩
  rintro ⟨i, a', cap'⟩ ⟨hi, hall, hc, hn⟩
  dsimp only at hi hall hc hn ⊢
  have hlen := flat_len (l.take i) hall
  have hlen2 : ((l.take i).flatMap enc1).length ≤ 100000 := by
    have : (l.take i).length ≤ 300 := by simp; omega
    omega
  generalize eo : (l.take i).flatMap enc1 = out at hc hn hlen hlen2 ⊢
  conv => whnf
  refine Cond.dec (fun h => ?_) (fun h => ?_)
  · have hi' : i < l.length := by omega
    conv => whnf
    refine ⟨by omega, ?_⟩
    refine row_ptr (A := A) (by simp) hE hrow (by omega) fun p hp => ?_
    subst hp
    conv => whnf
    refine ldstep (A := A) i (by simp) hE hrow hi' rfl rfl rfl (by simp) fun ta tc ht => ?_
    have etake : l.take (i + 1) = l.take i ++ [l[i]] := List.take_succ_eq_append_getElem hi'
    have eall : (l.take (i + 1)).all mayP = mayP l[i] := by rw [etake, List.all_append, hall]; simp
    have hmem : l[i] ∈ l := List.getElem_mem hi'
    have eflat : (l.take (i + 1)).flatMap enc1 = out ++ enc1 l[i] := by rw [etake, List.flatMap_append, eo]; simp
    generalize l[i] = s at ht etake eall hmem eflat ⊢
    conv => whnf
    intro b7
    conv => whnf
    refine CallOb.pu (may_c _ s ta tc) rfl ?_
    conv => whnf
    refine Cond.not (Cond.mk (fun hm => ?_) (fun hm => ?_))
    · have ht255 := may_text hm
      have hsh := shp_le s.k
      conv => whnf
      refine CallOb.pu (shape_c _ _) rfl ?_
      conv => whnf
      refine CallOb.by' [4] [0] (put_c _ b4 a' cap' out (by omega) ⟨hc, hn⟩ s.k 1 (by omega)) rfl ⟨rfl, rfl, rfl, fun x1 hx1 => ⟨rfl, ?_⟩⟩
      conv => whnf
      refine CallOb.by' [4] [0] (put_c _ b4 x1.1 x1.2 _ (by simp [beb_len]; omega) hx1 s.a (shp s.k).1 (by omega)) rfl ⟨rfl, rfl, rfl, fun x2 hx2 => ⟨rfl, ?_⟩⟩
      conv => whnf
      refine CallOb.by' [4] [0] (put_c _ b4 x2.1 x2.2 _ (by simp [beb_len]; omega) hx2 s.b (shp s.k).2.1 (by omega)) rfl ⟨rfl, rfl, rfl, fun x3 hx3 => ⟨rfl, ?_⟩⟩
      conv => whnf
      refine CallOb.by' [4] [0] (put_c _ b4 x3.1 x3.2 _ (by simp [beb_len]; omega) hx3 s.c (shp s.k).2.2.1 (by omega)) rfl ⟨rfl, rfl, rfl, fun x4 hx4 => ⟨rfl, ?_⟩⟩
      conv => whnf
      refine CallOb.by' [4] [0] (put_c _ b4 x4.1 x4.2 _ (by simp [beb_len]; omega) hx4 s.t.length (shp s.k).2.2.2 (by omega)) rfl ⟨rfl, rfl, rfl, fun x5 hx5 => ⟨rfl, ?_⟩⟩
      generalize eb : out ++ beb s.k 1 ++ beb s.a (shp s.k).1 ++ beb s.b (shp s.k).2.1 ++ beb s.c (shp s.k).2.2.1 ++ beb s.t.length (shp s.k).2.2.2 = o5 at hx5 ⊢
      have e5 : out ++ enc1 s = o5 ++ s.t := by rw [← eb]; simp [enc1]
      have l5 : o5.length ≤ 100006 := by rw [← eb]; simp [beb_len]; omega
      conv => whnf
      refine append_bytes (a := x5.1) (n := o5.length) (cap := x5.2) (l := o5) (k := s.t.length) (m := s.t) (src := .c (.rs ta s.t.length tc)) (.refl _) rfl rfl (Src.rs (A := A) (by simp) (ht.1.ent hQ)) ⟨rfl, rfl⟩ (by omega) 22 (.inr rfl) ?_
      intro a6 c6 hc6 hn6
      conv => whnf
      refine Ar.i64 (by omega) ?_
      conv => whnf
      have e6 : (o5 ++ s.t).length = o5.length + s.t.length := List.length_append
      refine ⟨⟨i + 1, a6, c6⟩, ⟨hi', by rw [eall]; exact hm, by dsimp only; rw [eflat, e5, e6]; exact hc6, fun hz => ?_⟩, by dsimp only; omega, ?_⟩
      · dsimp only
        rw [eflat, e5]
        exact List.eq_nil_of_length_eq_zero (by rw [e6]; exact hn6 hz)
      · dsimp only
        rw [eflat, e5]
        refine Wk.mk' [4] [0, 0] ⟨⟨rfl, trivial⟩, ⟨rfl, trivial⟩, ⟨rfl, rfl⟩, ⟨rfl, trivial⟩, ⟨rfl, trivial⟩, ⟨rfl, trivial⟩, trivial⟩ (by repeat' (first | exact trivial | apply And.intro)) ⟨?_, rfl⟩
        rw [e6]; rfl
    · conv => whnf
      have e : encP l = ([], 2) := by
        unfold encP
        rw [if_pos]
        rw [List.all_eq_false]
        exact ⟨s, hmem, by simp [hm]⟩
      rw [e]
      refine Ret.grp [] [] ?_
      conv => whnf
      exact Ret.mk' (none, 0, all []) [] [0, 1] ⟨rd_nil, Nat.le_refl _, fun _ => rfl⟩ rfl (by repeat' (first | exact trivial | apply And.intro)) (by repeat' (first | exact trivial | apply And.intro)) ⟨rfl, rfl⟩
  · have hi' : i = l.length := by omega
    subst hi'
    rw [List.take_length] at hall eo
    subst eo
    conv => whnf
    refine Cond.dec (fun h2 => ?_) (fun h2 => ?_)
    · conv => whnf
      have e : encP l = ([], 3) := by unfold encP; rw [if_neg (by simp [hall]), if_pos (by omega)]
      rw [e]
      refine Ret.grp [] [] ?_
      conv => whnf
      exact Ret.mk' (none, 0, all []) [] [0, 1] ⟨rd_nil, Nat.le_refl _, fun _ => rfl⟩ rfl (by repeat' (first | exact trivial | apply And.intro)) (by repeat' (first | exact trivial | apply And.intro)) ⟨rfl, rfl⟩
    · conv => whnf
      have e : encP l = (l.flatMap enc1, 0) := by unfold encP; rw [if_neg (by simp [hall]), if_neg (by omega)]
      rw [e]
      exact Ret.mk' (a', cap', Own a' cap' 5 1 (u8s (l.flatMap enc1))) [] [0, 0] ⟨Own.rd, hc, hn⟩ rfl (by repeat' (first | exact trivial | apply And.intro)) (by repeat' (first | exact trivial | apply And.intro)) ⟨rfl, rfl⟩
end Go.Proofs.Ytbncidjnjkhpfaa
