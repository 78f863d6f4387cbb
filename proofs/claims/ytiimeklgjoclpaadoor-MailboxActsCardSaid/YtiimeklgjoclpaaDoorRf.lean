/- The document's boxes: opened, laid into. -/
import Derived.Test.YtiimeklgjoclpaaDoorRe
import Derived.Test.YtiimeklgjoclpaaDoorCb
namespace Go.Proofs.YtiimeklgjoclpaaDoor
open Go.Sx
set_option maxRecDepth 100000
set_option pp.deepTerms false
set_option pp.maxSteps 300
set_option linter.unusedSimpArgs false
set_option linter.unusedVariables false

theorem fnd_none {n : Int} {ls : List RBx} (h : ∀ x ∈ ls, x.u ≠ n) : fnd n ls = -1 := by
  have : ls.findIdx? (fun x => decide (x.u = n)) = none := by rw [List.findIdx?_eq_none_iff]; intro x hx; exact decide_eq_false (h x hx)
  unfold fnd; rw [this]
theorem fnd_at {n : Int} {pre post : List RBx} {x : RBx} (hx : x.u = n) (h : ∀ y ∈ pre, y.u ≠ n) : fnd n (pre ++ x :: post) = (pre.length : Nat) := by
  have : (pre ++ x :: post).findIdx? (fun x => decide (x.u = n)) = some pre.length := by
    rw [List.findIdx?_eq_some_iff_getElem]
    refine ⟨by simp, by simp [hx], fun j hj => ?_⟩
    rw [List.getElem_append_left (by omega)]
    simpa using h _ (List.getElem_mem _)
  unfold fnd; rw [this]
theorem ownRw {a : Option Addr} {c e : Nat} {xs : List Value} {Q : HProp} {ls : List RBx} (h : OwnRow xs 35 (BxR Q) ls) : Rw (all [Own a c e 35 xs, Q]) a ls := by
  have h1 := h.row (R := all [Own a c e 35 xs, Q]) (a := a) (Rd.ent (Ent.at 0 rfl) Own.rd)
  exact h1.ent (Ent.refl _) fun _ _ => BxR.ent (Ent.at 1 rfl)
theorem rclock_c (A : HProp) (n : Int) : Pu Tryd.prog 37 [.c (.int .i64 n)] A (.c (.bool (decide (n ≥ 0) && decide (n ≤ 1099511627776)))) := by
  refine Con.of' tt_ok Tryd.func37 rfl (by decide) [.c (.int .i64 n)] [] [] rfl rfl trivial (by repeat' (first | exact trivial | rfl | apply And.intro)) rfl ?_
  conv => whnf
  refine Cond.dec (fun h => ?_) (fun h => ?_)
  · conv => whnf
    refine Ret.mk' () [] [0] trivial ?_ (by repeat' (first | exact trivial | rfl | apply And.intro)) (by repeat' (first | exact trivial | rfl | apply And.intro)) ⟨rfl, rfl⟩
    show Value.bool _ = Value.bool _
    rw [decide_eq_true h]; rfl
  · conv => whnf
    refine Ret.mk' () [] [0] trivial ?_ (by repeat' (first | exact trivial | rfl | apply And.intro)) (by repeat' (first | exact trivial | rfl | apply And.intro)) ⟨rfl, rfl⟩
    show Value.bool _ = Value.bool _
    rw [decide_eq_false h]; rfl
theorem rproof_c (A : HProp) (key : List UInt8) (hkey : key.length = 32) (now who ack : Int) (hn : now ≤ 9223372036854775807) (ha : ack ≤ 9223372036854775807) :
    Pu Tryd.prog 16 [.agg [.many 32 (u8s key)], .c (.int .i64 now), .c (.int .i64 who), .c (.int .i64 ack)] A (.agg [.many 16 (u8s (proofD key now who ack))]) := by
  have hk32 := many_ok hkey
  have hk16 := many_ok (proofD_len key now who ack)
  refine Con.of' tt_ok Tryd.func16 rfl (by decide) [.agg [.many 32 (u8s key)], .c (.int .i64 now), .c (.int .i64 who), .c (.int .i64 ack)] [] [] rfl rfl trivial ⟨⟨hk32 _, trivial⟩, trivial, trivial, trivial, trivial⟩ rfl ?_
  conv => whnf
  intro b4
  conv => whnf
  intro b8
  conv => whnf
  refine Cond.dec (fun h0 => ?_) (fun h0 => ?_)
  · conv => whnf
    refine Ret.mk' () [] [0] trivial ?_ ⟨hk16 _, trivial⟩ (by repeat' (first | exact trivial | rfl | apply And.intro)) ⟨rfl, rfl⟩
    rw [proofD, if_neg (fun h => by omega), u8s_zero']; rfl
  conv => whnf
  refine Cond.dec (fun h1 => ?_) (fun h1 => ?_)
  · conv => whnf
    refine Ret.mk' () [] [0] trivial ?_ ⟨hk16 _, trivial⟩ (by repeat' (first | exact trivial | rfl | apply And.intro)) ⟨rfl, rfl⟩
    rw [proofD, if_neg (fun h => by omega), u8s_zero']; rfl
  conv => whnf
  refine Cond.dec (fun h2 => ?_) (fun h2 => ?_)
  · conv => whnf
    refine Ret.mk' () [] [0] trivial ?_ ⟨hk16 _, trivial⟩ (by repeat' (first | exact trivial | rfl | apply And.intro)) ⟨rfl, rfl⟩
    rw [proofD, if_neg (fun h => by omega), u8s_zero']; rfl
  conv => whnf
  refine Cond.dec (fun h3 => ?_) (fun h3 => ?_)
  · conv => whnf
    refine Ret.mk' () [] [0] trivial ?_ ⟨hk16 _, trivial⟩ (by repeat' (first | exact trivial | rfl | apply And.intro)) ⟨rfl, rfl⟩
    rw [proofD, if_neg (fun h => by omega), u8s_zero']; rfl
  rw [show proofD key now who ack = (macD key (fetchB now who ack)).take 16 from if_pos ⟨by omega, by omega, by omega⟩] at hk16 ⊢
  conv => whnf
  intro b25
  conv => whnf
  refine conv_slc 25 5 Tryd.underlying34 Tryd.underlying5 ⟨_, _, rfl, rfl, ?_⟩
  have e5 : dens [(25, b25), (8, b8), (4, b4)] [.one (.int .u8 102), .one (.int .u8 101), .one (.int .u8 116), .one (.int .u8 99), .one (.int .u8 104)] = u8s [102, 101, 116, 99, 104] := rfl
  conv => whnf
  refine Ar.u64 (by omega) ?_
  conv => whnf
  refine CallOb.fb (rdigits_c _ now 8 (by decide)) rfl fun a1 c1 hc1 => ?_
  conv => whnf
  refine CallOb.fb (join_c _ (Own (some (radr (b25, 0))) 5 5 1 (u8s [102, 101, 116, 99, 104])) (Own a1 c1 5 1 (u8s (beb now 8))) (Ent.all (by first | (simp; done) | (simp [M.props]; done) | (simp [M.props]; first | (left; rfl) | (right; left; rfl) | (right; right; left; rfl) | (right; right; right; left; rfl) | (right; right; right; right; left; rfl)) | exact (.head _ : List.Mem _ _) | exact (.tail _ (.head _) : List.Mem _ _) | exact (.tail _ (.tail _ (.head _)) : List.Mem _ _) | exact (.tail _ (.tail _ (.tail _ (.head _))) : List.Mem _ _) | exact (.tail _ (.tail _ (.tail _ (.tail _ (.head _)))) : List.Mem _ _) | exact (.tail _ (.tail _ (.tail _ (.tail _ (.tail _ (.head _))))) : List.Mem _ _) | exact (.tail _ (.tail _ (.tail _ (.tail _ (.tail _ (.tail _ (.head _)))))) : List.Mem _ _) | exact (.tail _ (.tail _ (.tail _ (.tail _ (.tail _ (.tail _ (.tail _ (.head _))))))) : List.Mem _ _) | exact (.tail _ (.tail _ (.tail _ (.tail _ (.tail _ (.tail _ (.tail _ (.tail _ (.head _)))))))) : List.Mem _ _))) (Ent.all (by first | (simp; done) | (simp [M.props]; done) | (simp [M.props]; first | (left; rfl) | (right; left; rfl) | (right; right; left; rfl) | (right; right; right; left; rfl) | (right; right; right; right; left; rfl)) | exact (.head _ : List.Mem _ _) | exact (.tail _ (.head _) : List.Mem _ _) | exact (.tail _ (.tail _ (.head _)) : List.Mem _ _) | exact (.tail _ (.tail _ (.tail _ (.head _))) : List.Mem _ _) | exact (.tail _ (.tail _ (.tail _ (.tail _ (.head _)))) : List.Mem _ _) | exact (.tail _ (.tail _ (.tail _ (.tail _ (.tail _ (.head _))))) : List.Mem _ _) | exact (.tail _ (.tail _ (.tail _ (.tail _ (.tail _ (.tail _ (.head _)))))) : List.Mem _ _) | exact (.tail _ (.tail _ (.tail _ (.tail _ (.tail _ (.tail _ (.tail _ (.head _))))))) : List.Mem _ _) | exact (.tail _ (.tail _ (.tail _ (.tail _ (.tail _ (.tail _ (.tail _ (.tail _ (.head _)))))))) : List.Mem _ _))) (some (radr (b25, 0))) 5 [102, 101, 116, 99, 104] Own.rd (by decide) a1 c1 (beb now 8) Own.rd (by rw [beb_len]; decide)) rfl fun a2 c2 hc2 => ?_
  conv => whnf
  refine Ar.u8 (by omega) ?_
  conv => whnf
  intro b34
  conv => whnf
  have hw : who = ((by8 who).toNat : Int) := (by8_toNat who (by omega)).symm
  refine appb (l := [102, 101, 116, 99, 104] ++ beb now 8) (m := [by8 who]) (.refl _) (by exact Src.u8 _ hw rfl) rfl rfl ⟨rfl, by decide, by decide⟩ (by simp [beb_len]) 34 (.inr rfl) ?_
  intro a3 c3 hc3
  conv => whnf
  refine Ar.u64 (by omega) ?_
  conv => whnf
  refine CallOb.fb (rdigits_c _ ack 8 (by decide)) rfl fun a4 c4 hc4 => ?_
  conv => whnf
  refine appb (l := [102, 101, 116, 99, 104] ++ beb now 8 ++ [by8 who]) (m := beb ack 8) (.swap _ _ _) (Src.rs (A := Own a4 c4 5 1 (u8s (beb ack 8))) (by simp) Own.rd) rfl rfl ⟨rfl, by decide, by decide⟩ (by simp [beb_len]) 34 (.inr rfl) ?_
  intro a5 c5 hc5
  have eb : [102, 101, 116, 99, 104] ++ beb now 8 ++ [by8 who] ++ beb ack 8 = fetchB now who ack := by
    have : beb who 1 = [by8 who] := by show [by8 (who.fdiv (2 ^ (8 * 0)))] = _; simp
    rw [fetchB, this]
  rw [eb] at hc5 ⊢
  conv => whnf
  refine CallOb.fb (rbytes_c _ key hkey) rfl fun a6 c6 hc6 => ?_
  conv => whnf
  refine CallOb.pu (rmac_c _ (Own a5 c5 5 1 (u8s (fetchB now who ack))) (Own a6 c6 5 1 (u8s key)) (Ent.all (by first | (simp; done) | (simp [M.props]; done) | (simp [M.props]; first | (left; rfl) | (right; left; rfl) | (right; right; left; rfl) | (right; right; right; left; rfl) | (right; right; right; right; left; rfl)) | exact (.head _ : List.Mem _ _) | exact (.tail _ (.head _) : List.Mem _ _) | exact (.tail _ (.tail _ (.head _)) : List.Mem _ _) | exact (.tail _ (.tail _ (.tail _ (.head _))) : List.Mem _ _) | exact (.tail _ (.tail _ (.tail _ (.tail _ (.head _)))) : List.Mem _ _) | exact (.tail _ (.tail _ (.tail _ (.tail _ (.tail _ (.head _))))) : List.Mem _ _) | exact (.tail _ (.tail _ (.tail _ (.tail _ (.tail _ (.tail _ (.head _)))))) : List.Mem _ _) | exact (.tail _ (.tail _ (.tail _ (.tail _ (.tail _ (.tail _ (.tail _ (.head _))))))) : List.Mem _ _) | exact (.tail _ (.tail _ (.tail _ (.tail _ (.tail _ (.tail _ (.tail _ (.tail _ (.head _)))))))) : List.Mem _ _))) (Ent.all (by first | (simp; done) | (simp [M.props]; done) | (simp [M.props]; first | (left; rfl) | (right; left; rfl) | (right; right; left; rfl) | (right; right; right; left; rfl) | (right; right; right; right; left; rfl)) | exact (.head _ : List.Mem _ _) | exact (.tail _ (.head _) : List.Mem _ _) | exact (.tail _ (.tail _ (.head _)) : List.Mem _ _) | exact (.tail _ (.tail _ (.tail _ (.head _))) : List.Mem _ _) | exact (.tail _ (.tail _ (.tail _ (.tail _ (.head _)))) : List.Mem _ _) | exact (.tail _ (.tail _ (.tail _ (.tail _ (.tail _ (.head _))))) : List.Mem _ _) | exact (.tail _ (.tail _ (.tail _ (.tail _ (.tail _ (.tail _ (.head _)))))) : List.Mem _ _) | exact (.tail _ (.tail _ (.tail _ (.tail _ (.tail _ (.tail _ (.tail _ (.head _))))))) : List.Mem _ _) | exact (.tail _ (.tail _ (.tail _ (.tail _ (.tail _ (.tail _ (.tail _ (.tail _ (.head _)))))))) : List.Mem _ _))) a6 c6 key ⟨Own.rd, hc6.1, hc6.2⟩ (by omega) a5 c5 (fetchB now who ack) ⟨Own.rd, hc5.1, hc5.2⟩ (by rw [fetchB_len]; decide)) rfl ?_
  conv => whnf
  refine CallOb.pu (rshort_c _ (macD key (fetchB now who ack)) (macD_len _ _)) rfl ?_
  conv => whnf
  exact Ret.mk' () [] [5] trivial rfl ⟨hk16 _, trivial⟩ (by repeat' (first | exact trivial | rfl | apply And.intro)) ⟨rfl, rfl⟩

/-- The same boxes behind a call, and an error. -/
abbrev bse (a : Option Addr) (n cap : Nat) (most e : Int) : SV := .tup [.agg (bv a n cap most), .c (.int .i64 e)]
theorem rlenNone_c (A Q : HProp) (hE : Ent A Q) (a : Option Addr) (cap : Nat) (ls : List RBx) (most n : Int) (hr : Rw Q a ls) (hl : ls.length ≤ 1000000) (hx : ∀ x ∈ ls, x.u ≠ n) : Pu Tryd.prog 22 [.agg (bv a ls.length cap most), .c (.int .i64 n)] A (.c (.int .i64 0)) := by
  refine Con.of' tt_ok Tryd.func22 rfl (by decide) [.agg (bv a ls.length cap most), .c (.int .i64 n)] [] [] rfl rfl trivial (by repeat' (first | exact trivial | rfl | apply And.intro)) rfl ?_
  conv => whnf
  intro b2
  conv => whnf
  refine CallOb.pu (rfind_c _ Q ((Ent.all (by first | (simp; done) | (simp [M.props]; done) | (simp [M.props]; first | (left; rfl) | (right; left; rfl) | (right; right; left; rfl) | (right; right; right; left; rfl) | (right; right; right; right; left; rfl)) | exact (.head _ : List.Mem _ _) | exact (.tail _ (.head _) : List.Mem _ _) | exact (.tail _ (.tail _ (.head _)) : List.Mem _ _) | exact (.tail _ (.tail _ (.tail _ (.head _))) : List.Mem _ _) | exact (.tail _ (.tail _ (.tail _ (.tail _ (.head _)))) : List.Mem _ _) | exact (.tail _ (.tail _ (.tail _ (.tail _ (.tail _ (.head _))))) : List.Mem _ _) | exact (.tail _ (.tail _ (.tail _ (.tail _ (.tail _ (.tail _ (.head _)))))) : List.Mem _ _) | exact (.tail _ (.tail _ (.tail _ (.tail _ (.tail _ (.tail _ (.tail _ (.head _))))))) : List.Mem _ _) | exact (.tail _ (.tail _ (.tail _ (.tail _ (.tail _ (.tail _ (.tail _ (.tail _ (.head _)))))))) : List.Mem _ _))).trans hE) a cap ls most n hr hl) rfl ?_
  rw [fnd_none hx]
  conv => whnf
  refine Cond.dec (fun _ => ?_) (fun h => absurd (by decide) h)
  conv => whnf
  exact Ret.mk' () [] [0] trivial rfl (by repeat' (first | exact trivial | rfl | apply And.intro)) (by repeat' (first | exact trivial | rfl | apply And.intro)) ⟨rfl, rfl⟩
theorem rlenAt_c (A Q : HProp) (hE : Ent A Q) (a : Option Addr) (cap : Nat) (pre post : List RBx) (x : RBx) (most n : Int) (hr : Rw Q a (pre ++ x :: post)) (hl : (pre ++ x :: post).length ≤ 1000000) (hx : x.u = n) (hp : ∀ y ∈ pre, y.u ≠ n) :
    Pu Tryd.prog 22 [.agg (bv a (pre ++ x :: post).length cap most), .c (.int .i64 n)] A (.c (.int .i64 x.l.length)) := by
  refine Con.of' tt_ok Tryd.func22 rfl (by decide) [.agg (bv a (pre ++ x :: post).length cap most), .c (.int .i64 n)] [] [] rfl rfl trivial (by repeat' (first | exact trivial | rfl | apply And.intro)) rfl ?_
  conv => whnf
  intro b2
  conv => whnf
  refine CallOb.pu (rfind_c _ Q ((Ent.all (by first | (simp; done) | (simp [M.props]; done) | (simp [M.props]; first | (left; rfl) | (right; left; rfl) | (right; right; left; rfl) | (right; right; right; left; rfl) | (right; right; right; right; left; rfl)) | exact (.head _ : List.Mem _ _) | exact (.tail _ (.head _) : List.Mem _ _) | exact (.tail _ (.tail _ (.head _)) : List.Mem _ _) | exact (.tail _ (.tail _ (.tail _ (.head _))) : List.Mem _ _) | exact (.tail _ (.tail _ (.tail _ (.tail _ (.head _)))) : List.Mem _ _) | exact (.tail _ (.tail _ (.tail _ (.tail _ (.tail _ (.head _))))) : List.Mem _ _) | exact (.tail _ (.tail _ (.tail _ (.tail _ (.tail _ (.tail _ (.head _)))))) : List.Mem _ _) | exact (.tail _ (.tail _ (.tail _ (.tail _ (.tail _ (.tail _ (.tail _ (.head _))))))) : List.Mem _ _) | exact (.tail _ (.tail _ (.tail _ (.tail _ (.tail _ (.tail _ (.tail _ (.tail _ (.head _)))))))) : List.Mem _ _))).trans hE) a cap (pre ++ x :: post) most n hr hl) rfl ?_
  rw [fnd_at hx hp]
  have hpl : pre.length < (pre ++ x :: post).length := by simp
  have hge : (pre ++ x :: post)[pre.length]'hpl = x := by simp
  conv => whnf
  refine Cond.dec (fun h => absurd h (by omega)) (fun _ => ?_)
  conv => whnf
  refine ⟨by omega, row_ptr (n := 34) (A := A) (by simp) hE hr (by omega) fun p hq => ?_⟩
  have hr2 : Rw Q (some (radr p)) (pre ++ x :: post) := by rw [← hq]; exact hr
  conv => whnf
  refine ldcell (n := 34) pre.length 34 (A := A) (by simp) hE hr2 hpl (by decide) rfl rfl rfl fun cs hcs => ?_
  rw [hge] at hcs
  obtain ⟨a1, c1, rfl, _, _, hk, _⟩ := hcs
  have hk8 : (u8s x.key).length = 32 := by rw [u8s_length, hk]
  refine ⟨.rs a1 x.l.length c1, ?_, trivial, ?_⟩
  · show ([Value.int .i64 x.u, .int .i64 x.next] ++ (u8s x.key ++ [.slice a1 x.l.length c1]))[34]? = _
    rw [List.getElem?_append_right (by simp), List.getElem?_append_right (by simp [hk])]
    simp [hk, SC.den]
  conv => whnf
  exact Ret.mk' () [] [0] trivial rfl (by repeat' (first | exact trivial | rfl | apply And.intro)) (by repeat' (first | exact trivial | rfl | apply And.intro)) ⟨rfl, rfl⟩
theorem ropenArg_c (A : HProp) (a : Option Addr) (n0 cap : Nat) (most n : Int) (key : List UInt8) (hkey : key.length = 32) (hn : ¬ (n ≥ 0 ∧ n < 8)) : Pu Tryd.prog 17 [.agg (bv a n0 cap most), .c (.int .i64 n), .agg [.many 32 (u8s key)]] A (bse a n0 cap most 2) := by
  have hk32 := many_ok hkey
  refine Con.of' tt_ok Tryd.func17 rfl (by decide) [.agg (bv a n0 cap most), .c (.int .i64 n), .agg [.many 32 (u8s key)]] [] [] rfl rfl trivial ⟨⟨trivial, trivial, trivial⟩, trivial, ⟨hk32 _, trivial⟩, trivial⟩ rfl ?_
  conv => whnf
  intro b3
  conv => whnf
  intro b5
  conv => whnf
  intro b6
  conv => whnf
  refine Cond.dec (fun h => ?_) (fun h => ?_)
  · conv => whnf
    exact Ret.mk' () [] [0] trivial rfl (by repeat' (first | exact trivial | rfl | apply And.intro)) (by repeat' (first | exact trivial | rfl | apply And.intro)) ⟨rfl, rfl⟩
  conv => whnf
  refine Cond.dec (fun h => ?_) (fun h => by exfalso; omega)
  conv => whnf
  exact Ret.mk' () [] [0] trivial rfl (by repeat' (first | exact trivial | rfl | apply And.intro)) (by repeat' (first | exact trivial | rfl | apply And.intro)) ⟨rfl, rfl⟩
theorem ropenHave_c (A Q : HProp) (hE : Ent A Q) (a : Option Addr) (cap : Nat) (pre post : List RBx) (x : RBx) (most n : Int) (key : List UInt8) (hkey : key.length = 32) (hn : n ≥ 0 ∧ n < 8) (hr : Rw Q a (pre ++ x :: post)) (hl : (pre ++ x :: post).length ≤ 1000000) (hx : x.u = n) (hp : ∀ y ∈ pre, y.u ≠ n) :
    Pu Tryd.prog 17 [.agg (bv a (pre ++ x :: post).length cap most), .c (.int .i64 n), .agg [.many 32 (u8s key)]] A (bse a (pre ++ x :: post).length cap most 10) := by
  have hk32 := many_ok hkey
  refine Con.of' tt_ok Tryd.func17 rfl (by decide) [.agg (bv a (pre ++ x :: post).length cap most), .c (.int .i64 n), .agg [.many 32 (u8s key)]] [] [] rfl rfl trivial ⟨⟨trivial, trivial, trivial⟩, trivial, ⟨hk32 _, trivial⟩, trivial⟩ rfl ?_
  conv => whnf
  intro b3
  conv => whnf
  intro b5
  conv => whnf
  intro b6
  conv => whnf
  refine Cond.dec (fun h => by exfalso; omega) (fun h => ?_)
  conv => whnf
  refine Cond.dec (fun h => by exfalso; omega) (fun h => ?_)
  conv => whnf
  refine CallOb.pu (rfind_c _ Q ((Ent.all (by first | (simp; done) | (simp [M.props]; done) | (simp [M.props]; first | (left; rfl) | (right; left; rfl) | (right; right; left; rfl) | (right; right; right; left; rfl) | (right; right; right; right; left; rfl)) | exact (.head _ : List.Mem _ _) | exact (.tail _ (.head _) : List.Mem _ _) | exact (.tail _ (.tail _ (.head _)) : List.Mem _ _) | exact (.tail _ (.tail _ (.tail _ (.head _))) : List.Mem _ _) | exact (.tail _ (.tail _ (.tail _ (.tail _ (.head _)))) : List.Mem _ _) | exact (.tail _ (.tail _ (.tail _ (.tail _ (.tail _ (.head _))))) : List.Mem _ _) | exact (.tail _ (.tail _ (.tail _ (.tail _ (.tail _ (.tail _ (.head _)))))) : List.Mem _ _) | exact (.tail _ (.tail _ (.tail _ (.tail _ (.tail _ (.tail _ (.tail _ (.head _))))))) : List.Mem _ _) | exact (.tail _ (.tail _ (.tail _ (.tail _ (.tail _ (.tail _ (.tail _ (.tail _ (.head _)))))))) : List.Mem _ _))).trans hE) a cap (pre ++ x :: post) most n hr hl) rfl ?_
  rw [fnd_at hx hp]
  conv => whnf
  refine Cond.dec (fun _ => ?_) (fun h => absurd h (by omega))
  conv => whnf
  exact Ret.mk' () [] [0] trivial rfl (by repeat' (first | exact trivial | rfl | apply And.intro)) (by repeat' (first | exact trivial | rfl | apply And.intro)) ⟨rfl, rfl⟩
theorem ropen_c (A Q : HProp) (hE : Ent A Q) (a : Option Addr) (cap : Nat) (ls : List RBx) (most n : Int) (key : List UInt8) (hkey : key.length = 32) (hn : n ≥ 0 ∧ n < 8) (hr : Rw Q a ls) (hl : ls.length ≤ 1000000) (hx : ∀ x ∈ ls, x.u ≠ n) :
    Con Tryd.prog 17 [.agg (bv a ls.length cap most), .c (.int .i64 n), .agg [.many 32 (u8s key)]] [] [] A (fun t : Option Addr × Nat × HProp => Rw (all [t.2.2, Q]) t.1 (ls ++ [⟨n, 1, key, []⟩])) (fun t => bse t.1 (ls.length + 1) t.2.1 most 0) (fun _ => []) (fun t => [t.2.2]) := by
  have hk32 := many_ok hkey
  refine Con.of' tt_ok Tryd.func17 rfl (by decide) [.agg (bv a ls.length cap most), .c (.int .i64 n), .agg [.many 32 (u8s key)]] [] [] rfl rfl trivial ⟨⟨trivial, trivial, trivial⟩, trivial, ⟨hk32 _, trivial⟩, trivial⟩ rfl ?_
  conv => whnf
  intro b3
  conv => whnf
  intro b5
  conv => whnf
  intro b6
  conv => whnf
  refine Cond.dec (fun h => by exfalso; omega) (fun h => ?_)
  conv => whnf
  refine Cond.dec (fun h => by exfalso; omega) (fun h => ?_)
  conv => whnf
  refine CallOb.pu (rfind_c _ Q ((Ent.all (by first | (simp; done) | (simp [M.props]; done) | (simp [M.props]; first | (left; rfl) | (right; left; rfl) | (right; right; left; rfl) | (right; right; right; left; rfl) | (right; right; right; right; left; rfl)) | exact (.head _ : List.Mem _ _) | exact (.tail _ (.head _) : List.Mem _ _) | exact (.tail _ (.tail _ (.head _)) : List.Mem _ _) | exact (.tail _ (.tail _ (.tail _ (.head _))) : List.Mem _ _) | exact (.tail _ (.tail _ (.tail _ (.tail _ (.head _)))) : List.Mem _ _) | exact (.tail _ (.tail _ (.tail _ (.tail _ (.tail _ (.head _))))) : List.Mem _ _) | exact (.tail _ (.tail _ (.tail _ (.tail _ (.tail _ (.tail _ (.head _)))))) : List.Mem _ _) | exact (.tail _ (.tail _ (.tail _ (.tail _ (.tail _ (.tail _ (.tail _ (.head _))))))) : List.Mem _ _) | exact (.tail _ (.tail _ (.tail _ (.tail _ (.tail _ (.tail _ (.tail _ (.tail _ (.head _)))))))) : List.Mem _ _))).trans hE) a cap ls most n hr hl) rfl ?_
  rw [fnd_none hx]
  obtain ⟨css, h1, h2, h3, h4⟩ := hr.h
  have hcl : css.flatten.length = ls.length * 35 := by rw [flatten_len h3, h2]
  conv => whnf
  refine Cond.dec (fun h => absurd h (by decide)) (fun _ => ?_)
  conv => whnf
  intro b21
  conv => whnf
  refine With.own (i := 21) (n := 0) (cap := 0) (size := 35) ⟨_, _, rfl, ⟨rfl, Nat.le_refl _⟩, ?_⟩
  refine append_own (a := some ⟨b21, 0, none⟩) (n := 0) (cap := 0) (xs := []) (k := ls.length) (ys := css.flatten) (src := .c (.rs a ls.length cap)) (F' := [A]) (.refl _) rfl (by rw [hcl]) (Src.rs (A := A) (by simp) (h1.ent hE)) (fun v hv => ?_) (by show (0 + ls.length + (0 + ls.length) / 4 + 192) * 72 ≤ _; omega) (by omega) (by decide) 52 (.inr rfl) ?_
  · obtain ⟨c, hc, hv⟩ := List.mem_flatten.1 hv
    obtain ⟨i, hi⟩ := List.getElem?_of_mem hc
    have hlt := (List.getElem?_eq_some_iff.1 hi).1
    obtain ⟨a1, c1, rfl, _, _, hk, _⟩ := h4 i _ c (List.getElem?_eq_getElem (by omega)) hi
    exact dens_one_cell (okL_spec (RBx.okL hk a1 c1 [])) v hv
  intro a1 c1 hc1 hn1
  rw [Nat.zero_add, List.nil_append] at *
  conv => whnf
  intro b29
  conv => whnf
  have hxo : OwnRow css.flatten 35 (BxR Q) ls := ⟨css, rfl, h2, h3, h4⟩
  refine append_own (a := a1) (n := ls.length) (cap := c1) (xs := css.flatten) (k := 1) (ys := dens [] (RBx.sg ⟨n, 1, key, []⟩ none 0)) (src := .c (.slc 29 0 1 1)) (F' := [A]) (.refl _) (by rw [hcl]) (by show (dens [] (RBx.sg ⟨n, 1, key, []⟩ none 0)).length = _; rw [segLen_dens (okL_spec (RBx.okL hkey none 0 []))]; rfl) (by exact Src.slc (Exists.intro [] (List.append_nil _).symm)) (dens_one_cell (okL_spec (RBx.okL (x := ⟨n, 1, key, []⟩) hkey none 0 [])))
    (by show (ls.length + 1 + (ls.length + 1) / 4 + 192) * 72 ≤ _; omega) (by omega) (by decide) 52 (.inr rfl) ?_
  intro a2 c2 hc2 hn2
  conv => whnf
  have hnew : BxR Q ⟨n, 1, key, []⟩ (dens [] (RBx.sg ⟨n, 1, key, []⟩ none 0)) := ⟨none, 0, rfl, ⟨[], fun _ _ => .inl rfl, rfl, fun c h => by simp at h, fun i x c h => by simp at h⟩, Nat.le_refl _, hkey, Nat.zero_le _⟩
  exact Ret.mk' (a2, c2, _) [] [0, 0] (ownRw (hxo.snoc (fun _ _ h => h) hnew.len hnew)) rfl (by repeat' (first | exact trivial | rfl | apply And.intro)) (by repeat' (first | exact trivial | rfl | apply And.intro)) ⟨rfl, rfl⟩
end Go.Proofs.YtiimeklgjoclpaaDoor
