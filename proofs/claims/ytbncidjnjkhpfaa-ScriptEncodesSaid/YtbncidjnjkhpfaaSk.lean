/- Encode, the document's; which steps are asked; the very same steps. -/
import Derived.Test.YtbncidjnjkhpfaaSj
namespace Go.Proofs.Ytbncidjnjkhpfaa
open Go.Sx
set_option maxRecDepth 100000
set_option pp.deepTerms false
set_option pp.maxSteps 300
set_option linter.unusedSimpArgs false

def encR (l : List Stp) : List UInt8 × Int := if l.all mayR = false then ([], 2) else if l.length > 200 then ([], 3) else (l.flatMap bytesR, 0)
theorem mayR_room {s : Stp} (h : mayR s = true) : (0 ≤ s.b ∧ s.b ≤ 65535) ∧ s.t.length ≤ 255 := by
  simp only [mayR, Stp.room, Bool.and_eq_true, decide_eq_true_eq] at h
  omega
theorem rflat_len (l : List Stp) (h : l.all mayR = true) : (l.flatMap bytesR).length ≤ l.length * 260 := by
  induction l with
  | nil => simp
  | cons s r ih =>
    simp only [List.all_cons, Bool.and_eq_true] at h
    have := bytesR_len s
    have := mayR_room h.1
    have := ih h.2
    simp only [List.flatMap_cons, List.length_append, List.length_cons]
    omega

theorem rencode_c (A R Q : HProp) (hE : Ent A R) (hQ : Ent A Q) (a : Option Addr) (cap : Nat) (l : List Stp) (hrow : Row R a 5 (StepE Q) l) (hl : l.length ≤ 300) :
    Con Try.prog 16 [.c (.rs a l.length cap)] [] [] A (fun x : Option Addr × Nat × HProp => Bts x.2.2 x.1 x.2.1 (encR l).1) (fun x => .tup [.c (.rs x.1 (encR l).1.length x.2.1), .c (.int .i64 (encR l).2)]) (fun _ => []) (fun x => [x.2.2]) := by
  refine Con.of' tt_ok Try.func16 rfl (by decide) [.c (.rs a l.length cap)] [] [] rfl rfl trivial (by repeat' (first | exact trivial | apply And.intro)) rfl ?_
  have hA : ∀ {x : List HProp}, A ∈ x → Ent (all x) Q := fun h => (Ent.all h).trans hQ
  conv => whnf
  refine LoopOb.mk' (σ := Nat) (fun i => [(0, .c (.rs a l.length cap)), (4, .c (.rs none 0 0)), (5, .c (.int .i64 i))])
    (fun _ => ⟨[], [], [A]⟩) (fun i => i ≤ l.length ∧ (l.take i).all mayR = true) (fun i => l.length - i) 0 ⟨Nat.zero_le _, rfl⟩ (Wk.mk' [] [0] ⟨⟨rfl, trivial⟩, ⟨rfl, trivial⟩, ⟨rfl, trivial⟩, trivial⟩ (by repeat' (first | exact trivial | apply And.intro)) ⟨rfl, rfl⟩) ?_
  rintro i ⟨hi, hall⟩
  conv => whnf
  refine Cond.dec (fun h => ?_) (fun h => ?_)
  · have hi' : i < l.length := by omega
    conv => whnf
    refine ⟨by omega, ?_⟩
    refine row_ptr (A := A) (by simp) hE hrow (by omega) fun p hp => ?_
    subst hp
    conv => whnf
    refine ldstep (A := A) i (by simp) hE hrow hi' rfl rfl rfl (by simp) fun ta tc ht => ?_
    have etake : l.take (i + 1) = l.take i ++ [l[i]] := List.take_succ_eq_append_getElem hi'
    have eall : (l.take (i + 1)).all mayR = mayR l[i] := by rw [etake, List.all_append, hall]; simp
    have hmem : l[i] ∈ l := List.getElem_mem hi'
    generalize l[i] = s at ht etake eall hmem ⊢
    conv => whnf
    refine CallOb.pu (rmay_c _ Q (hA (by simp)) s ta tc ht) rfl ?_
    conv => whnf
    refine Cond.not (Cond.mk (fun hm => ?_) (fun hm => ?_))
    · conv => whnf
      refine Ar.i64 (by omega) ?_
      conv => whnf
      exact ⟨i + 1, ⟨hi', by rw [eall]; exact hm⟩, by omega, Wk.mk' [] [0] ⟨⟨rfl, trivial⟩, ⟨rfl, trivial⟩, ⟨rfl, trivial⟩, trivial⟩ (by repeat' (first | exact trivial | apply And.intro)) ⟨rfl, rfl⟩⟩
    · conv => whnf
      have e : encR l = ([], 2) := by
        unfold encR
        rw [if_pos]
        rw [List.all_eq_false]
        exact ⟨s, hmem, by simp [hm]⟩
      rw [e]
      refine Ret.grp [] [] ?_
      conv => whnf
      exact Ret.mk' (none, 0, all []) [] [0, 0] ⟨rd_nil, Nat.le_refl _, fun _ => rfl⟩ rfl (by repeat' (first | exact trivial | apply And.intro)) (by repeat' (first | exact trivial | apply And.intro)) ⟨rfl, rfl⟩
  have hi' : i = l.length := by omega
  subst hi'
  rw [List.take_length] at hall
  conv => whnf
  refine Cond.dec (fun h2 => ?_) (fun h2 => ?_)
  · conv => whnf
    have e : encR l = ([], 3) := by unfold encR; rw [if_neg (by simp [hall]), if_pos (by omega)]
    rw [e]
    refine Ret.grp [] [] ?_
    conv => whnf
    exact Ret.mk' (none, 0, all []) [] [0, 0] ⟨rd_nil, Nat.le_refl _, fun _ => rfl⟩ rfl (by repeat' (first | exact trivial | apply And.intro)) (by repeat' (first | exact trivial | apply And.intro)) ⟨rfl, rfl⟩
  have e : encR l = (l.flatMap bytesR, 0) := by unfold encR; rw [if_neg (by simp [hall]), if_neg (by omega)]
  rw [e]
  conv => whnf
  refine LoopOb.mk' (σ := ES) (fun s => [(0, .c (.rs a l.length cap)), (4, .c (.rs s.a ((l.take s.i).flatMap bytesR).length s.cap)), (6, .c (.int .i64 s.i))])
    (fun s => ⟨[], [], [Own s.a s.cap 5 1 (u8s ((l.take s.i).flatMap bytesR)), A]⟩)
    (fun s => s.i ≤ l.length ∧ ((l.take s.i).flatMap bytesR).length ≤ s.cap ∧ (s.a = none → (l.take s.i).flatMap bytesR = [])) (fun s => l.length - s.i) ⟨0, none, 0⟩ ⟨Nat.zero_le _, Nat.le_refl _, fun _ => rfl⟩ ?_ ?_
  · refine Wk.own0 5 1 ?_
    exact Wk.mk' [] [0, 0] ⟨⟨rfl, trivial⟩, ⟨rfl, trivial⟩, ⟨rfl, trivial⟩, trivial⟩ (by repeat' (first | exact trivial | apply And.intro)) ⟨rfl, rfl⟩
  rintro ⟨i, a', cap'⟩ ⟨hi, hc, hn⟩
  dsimp only at hi hc hn ⊢
  have hall' : (l.take i).all mayR = true := by
    rw [List.all_eq_true] at hall ⊢
    exact fun x hx => hall x (List.mem_of_mem_take hx)
  have hlen := rflat_len (l.take i) hall'
  have hlen2 : ((l.take i).flatMap bytesR).length ≤ 100000 := by
    have : (l.take i).length ≤ 300 := by simp; omega
    omega
  generalize eo : (l.take i).flatMap bytesR = out at hc hn hlen hlen2 ⊢
  conv => whnf
  refine Cond.dec (fun h => ?_) (fun h => ?_)
  · have hi' : i < l.length := by omega
    conv => whnf
    refine ⟨by omega, ?_⟩
    refine row_ptr (A := A) (by simp) hE hrow (by omega) fun p hp => ?_
    subst hp
    conv => whnf
    refine ldstep (A := A) i (by simp) hE hrow hi' rfl rfl rfl (by simp) fun ta tc ht => ?_
    have etake : l.take (i + 1) = l.take i ++ [l[i]] := List.take_succ_eq_append_getElem hi'
    have hm : mayR l[i] = true := (List.all_eq_true.1 hall) _ (List.getElem_mem hi')
    have eflat : (l.take (i + 1)).flatMap bytesR = out ++ bytesR l[i] := by rw [etake, List.flatMap_append, eo]; simp
    generalize l[i] = s at ht etake hm eflat ⊢
    have hr := mayR_room hm
    have hbl := bytesR_len s
    conv => whnf
    refine CallOb.by' [] [] (bytes_c _ Q (hA (by simp)) s ta tc ht (by omega) hr.1) rfl ⟨rfl, rfl, rfl, fun x1 hx1 => ⟨rfl, ?_⟩⟩
    conv => whnf
    refine append_bytes (a := a') (n := out.length) (cap := cap') (l := out) (k := (bytesR s).length) (m := bytesR s) (src := .c (.rs x1.1 (bytesR s).length x1.2.1)) (.swap _ _ _) rfl rfl (Src.rs (A := x1.2.2) (by simp) hx1.1) ⟨rfl, rfl⟩ (by omega) 22 (.inr rfl) ?_
    intro a6 c6 hc6 hn6
    conv => whnf
    refine Ar.i64 (by omega) ?_
    conv => whnf
    have e6 : (out ++ bytesR s).length = out.length + (bytesR s).length := List.length_append
    refine ⟨⟨i + 1, a6, c6⟩, ⟨hi', by dsimp only; rw [eflat, e6]; exact hc6, fun hz => ?_⟩, by dsimp only; omega, ?_⟩
    · dsimp only
      rw [eflat]
      exact List.eq_nil_of_length_eq_zero (by rw [e6]; exact hn6 hz)
    · dsimp only
      rw [eflat]
      refine Wk.mk' [] [0, 1] ⟨⟨rfl, trivial⟩, ⟨?_, trivial⟩, ⟨rfl, trivial⟩, trivial⟩ (by repeat' (first | exact trivial | apply And.intro)) ⟨rfl, rfl⟩
      show _ = Value.slice a6 (out ++ bytesR s).length c6
      rw [e6]; rfl
  · have hi' : i = l.length := by omega
    subst hi'
    rw [List.take_length] at eo
    subst eo
    conv => whnf
    exact Ret.mk' (a', cap', Own a' cap' 5 1 (u8s (l.flatMap bytesR))) [] [0, 0] ⟨Own.rd, hc, hn⟩ rfl (by repeat' (first | exact trivial | apply And.intro)) (by repeat' (first | exact trivial | apply And.intro)) ⟨rfl, rfl⟩

def fitsL (l : List Stp) : Bool := decide (l.length ≤ 300) && l.all fun s => decide (s.t.length ≤ 300)
theorem fits_c (A R Q : HProp) (hE : Ent A R) (a : Option Addr) (cap : Nat) (l : List Stp) (hrow : Row R a 5 (StepE Q) l) : Pu Try.prog 11 [.c (.rs a l.length cap)] A (.c (.bool (fitsL l))) := by
  refine Con.of' tt_ok Try.func11 rfl (by decide) [.c (.rs a l.length cap)] [] [] rfl rfl trivial (by repeat' (first | exact trivial | apply And.intro)) rfl ?_
  conv => whnf
  refine Cond.dec (fun h => ?_) (fun h => ?_)
  · conv => whnf
    have e : fitsL l = false := by unfold fitsL; rw [decide_eq_false (by omega)]; rfl
    exact Ret.mk' () [] [0] trivial (by rw [e]; rfl) (by repeat' (first | exact trivial | apply And.intro)) trivial ⟨rfl, rfl⟩
  conv => whnf
  refine LoopOb.mk' (σ := Nat) (fun i => [(8, .c (.rs a l.length cap)), (9, .c (.int .i64 l.length)), (10, .c (.int .i64 i))])
    (fun _ => ⟨[], [], [A]⟩) (fun i => i ≤ l.length ∧ (l.take i).all (fun s => decide (s.t.length ≤ 300)) = true) (fun i => l.length - i) 0 ⟨Nat.zero_le _, rfl⟩ (Wk.mk' [] [0] ⟨⟨rfl, trivial⟩, ⟨rfl, trivial⟩, ⟨rfl, trivial⟩, trivial⟩ (by repeat' (first | exact trivial | apply And.intro)) ⟨rfl, rfl⟩) ?_
  rintro i ⟨hi, hall⟩
  conv => whnf
  refine Cond.dec (fun h => ?_) (fun h => ?_)
  · have hi' : i < l.length := by omega
    conv => whnf
    refine ⟨by omega, ?_⟩
    refine row_ptr (A := A) (by simp) hE hrow (by omega) fun p hp => ?_
    subst hp
    conv => whnf
    refine ldstep (A := A) i (by simp) hE hrow hi' rfl rfl rfl (by simp) fun ta tc ht => ?_
    have etake : l.take (i + 1) = l.take i ++ [l[i]] := List.take_succ_eq_append_getElem hi'
    have hmem : l[i] ∈ l := List.getElem_mem hi'
    generalize l[i] = s at ht etake hmem ⊢
    conv => whnf
    intro b4
    conv => whnf
    refine Cond.dec (fun hm => ?_) (fun hm => ?_)
    · conv => whnf
      have e : fitsL l = false := by
        unfold fitsL
        rw [Bool.and_eq_false_iff]
        right
        rw [List.all_eq_false]
        exact ⟨s, hmem, by simp; omega⟩
      exact Ret.mk' () [] [0] trivial (by rw [e]; rfl) (by repeat' (first | exact trivial | apply And.intro)) trivial ⟨rfl, rfl⟩
    · conv => whnf
      refine Ar.i64 (by omega) ?_
      conv => whnf
      refine ⟨i + 1, ⟨hi', ?_⟩, by omega, Wk.mk' [] [0] ⟨⟨rfl, trivial⟩, ⟨rfl, trivial⟩, ⟨rfl, trivial⟩, trivial⟩ (by repeat' (first | exact trivial | apply And.intro)) ⟨rfl, rfl⟩⟩
      rw [etake, List.all_append, hall]
      simp; omega
  · have hi' : i = l.length := by omega
    subst hi'
    rw [List.take_length] at hall
    conv => whnf
    have e : fitsL l = true := by unfold fitsL; rw [hall, decide_eq_true (by omega)]; rfl
    exact Ret.mk' () [] [0] trivial (by rw [e]; rfl) (by repeat' (first | exact trivial | apply And.intro)) trivial ⟨rfl, rfl⟩
end Go.Proofs.Ytbncidjnjkhpfaa
