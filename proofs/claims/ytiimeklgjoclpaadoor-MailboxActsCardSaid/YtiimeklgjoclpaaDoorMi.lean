/- Bytes that were put, or fetched, may be written over; boxes that no call made answer an error. -/
import Derived.Test.YtiimeklgjoclpaaDoorMh
namespace Go.Proofs.YtiimeklgjoclpaaDoor
open Go.Sx
set_option maxRecDepth 100000
set_option pp.deepTerms false
set_option pp.maxSteps 300
set_option linter.unusedSimpArgs false
set_option linter.unusedVariables false

theorem theirs_c (A : HProp) (c : Cmd) (h : c.id.length = 8) : Pu Tryd.prog 21 [.agg c.sg] A (.agg c.sg) := by
  have hk := many_ok h
  refine Con.of' tt_ok Tryd.func21 rfl (by decide) [.agg c.sg] [] [] rfl rfl trivial (by repeat' (first | exact trivial | rfl | exact hk _ | apply And.intro)) rfl ?_
  conv => whnf
  intro b1
  conv => whnf
  intro b2
  conv => whnf
  exact Ret.mk' () [] [0] trivial rfl (by repeat' (first | exact trivial | rfl | exact hk _ | apply And.intro)) (by repeat' (first | exact trivial | rfl | apply And.intro)) ⟨rfl, rfl⟩
theorem owes_one {l₁ r : List HProp} {y : En} {h : Hp} (s : seps (l₁ ++ owes [y] :: r) h) : seps (l₁ ++ oweb y :: r) h :=
  seps_perm List.perm_middle.symm (seps_all.1 (seps_perm List.perm_middle s))
theorem own_c (W : World) (hK : Gl (old W)) (y : Ma) (ta : Option Addr) (tc : Nat) (hb : Bts (old W) ta tc y.b) (hok : y.ok) : LawC Tryd.prog 6 [.agg (y.sg ta tc)] W := by
  have hk8 := many_ok hok.id
  have hk32 := many_ok hok.key
  refine Con.of' tt_ok Tryd.func6 rfl (by decide) [.agg (y.sg ta tc)] [] [] rfl rfl trivial ⟨Ma.okL hok ta tc _, trivial⟩ rfl ?_
  conv => whnf
  intro b1
  conv => whnf
  refine CallOb.pu (alive_c _ (hK.ent (Ent.all (by first | (simp; done) | (simp [M.props]; done) | (simp [M.props]; first | (left; rfl) | (right; left; rfl) | (right; right; left; rfl) | (right; right; right; left; rfl) | (right; right; right; right; left; rfl)) | exact (.head _ : List.Mem _ _) | exact (.tail _ (.head _) : List.Mem _ _) | exact (.tail _ (.tail _ (.head _)) : List.Mem _ _) | exact (.tail _ (.tail _ (.tail _ (.head _))) : List.Mem _ _) | exact (.tail _ (.tail _ (.tail _ (.tail _ (.head _)))) : List.Mem _ _) | exact (.tail _ (.tail _ (.tail _ (.tail _ (.tail _ (.head _))))) : List.Mem _ _) | exact (.tail _ (.tail _ (.tail _ (.tail _ (.tail _ (.tail _ (.head _)))))) : List.Mem _ _) | exact (.tail _ (.tail _ (.tail _ (.tail _ (.tail _ (.tail _ (.tail _ (.head _))))))) : List.Mem _ _) | exact (.tail _ (.tail _ (.tail _ (.tail _ (.tail _ (.tail _ (.tail _ (.tail _ (.head _)))))))) : List.Mem _ _))))) rfl ?_
  conv => whnf
  refine Cond.dec (fun h => ?_) (fun h => ?_)
  · conv => whnf
    exact Ret.mk' () [] [0] trivial rfl (by repeat' (first | exact trivial | rfl | apply And.intro)) (by repeat' (first | exact trivial | rfl | apply And.intro)) ⟨rfl, rfl⟩
  conv => whnf
  intro b23
  conv => whnf
  intro b24
  conv => whnf
  have hz16 : ∀ B, Seg.ok B (.many 16 (List.replicate 16 (.int .u8 0))) := fun B => ⟨rfl, fun v hv => by simp at hv; subst hv; rfl⟩
  refine LoopOb.mk' (σ := Nat) (fun i => [(1, .c (.ptr 1 0)), (24, .c (.slc 24 0 2 2)), (25, .c (.int .i64 2)), (26, .c (.int .i64 i))])
    (fun _ => ⟨[(24, b24), (23, b23), (1, b1)], [(24, [.one (.raw (.pointer none)), .one (.ptr 23 0)], 26), (23, (ecel b23).2), (1, y.sg ta tc, 36)], [old W]⟩) (fun i => i ≤ 2) (fun i => 2 - i) 0 (Nat.zero_le _)
    (Wk.mk' [24, 23, 1] [0] ⟨⟨rfl, trivial⟩, ⟨rfl, trivial⟩, ⟨rfl, trivial⟩, ⟨rfl, trivial⟩, trivial⟩ ⟨⟨trivial, rfl, trivial, trivial⟩, (by repeat' (first | exact trivial | rfl | apply And.intro)), ⟨trivial, Ma.okL hok ta tc _⟩, trivial⟩ ⟨rfl, rfl⟩) ?_
  intro i hi
  match i, hi with
  | 0, _ =>
    conv => whnf
    refine Cond.dec (fun _ => ?_) (fun h => absurd (by decide) h)
    conv => whnf
    refine ⟨by decide, ?_⟩
    conv => whnf
    refine CallOb.pu (fetchN_c _ y.now y.user y.ack (List.replicate 16 0) rfl) rfl ?_
    conv => whnf
    refine Draw.quiet (by kernel_rfl) tt_ok (List.range 40) (by kernel_rfl) ?_
    conv => whnf
    refine CallOb.pu (openN_c _ y.user y.key hok.key) rfl ?_
    conv => whnf
    refine Sub.whole ?_
    conv => whnf
    refine Cond.neI (fun h => absurd rfl h) (fun _ => ?_)
    conv => whnf
    refine CallOb.pu (theirs_c _ y.c hok.id) rfl ?_
    conv => whnf
    refine Sub.whole ?_
    conv => whnf
    refine CallOb.pu (putN_c _ y.now y.c hok.id none 0 0) rfl ?_
    conv => whnf
    refine Sub.whole ?_
    conv => whnf
    refine Cond.neI (fun h => absurd rfl h) (fun _ => ?_)
    conv => whnf
    refine Cond.neI (fun h => absurd rfl h) (fun _ => ?_)
    conv => whnf
    refine Cond.neI (fun h => absurd rfl h) (fun _ => ?_)
    conv => whnf
    refine CallOb.pu (expireN_c _ y.now) rfl ?_
    conv => whnf
    refine Sub.whole ?_
    conv => whnf
    refine Cond.neI (fun h => absurd rfl h) (fun _ => ?_)
    conv => whnf
    refine CallOb.pu (lenN_c _ y.user) rfl ?_
    conv => whnf
    refine Sub.whole ?_
    conv => whnf
    refine Cond.neI (fun h => absurd rfl h) (fun _ => ?_)
    conv => whnf
    refine Ar.i64 (by decide) ?_
    conv => whnf
    exact ⟨1, by decide, by decide, Wk.mk' [24, 23, 1] [0] ⟨⟨rfl, trivial⟩, ⟨rfl, trivial⟩, ⟨rfl, trivial⟩, ⟨rfl, trivial⟩, trivial⟩ ⟨⟨trivial, rfl, trivial, trivial⟩, (by repeat' (first | exact trivial | rfl | apply And.intro)), ⟨trivial, Ma.okL hok ta tc _⟩, trivial⟩ ⟨rfl, rfl⟩⟩
  | 1, _ =>
    conv => whnf
    refine Cond.dec (fun _ => ?_) (fun h => absurd (by decide) h)
    conv => whnf
    refine ⟨by decide, ?_⟩
    conv => whnf
    refine CallOb.by' [23] [] (fetchE_c _ b23 y.now y.user y.ack (List.replicate 16 0) rfl) rfl ⟨rfl, rfl, rfl, fun _ _ => ⟨rfl, ?_⟩⟩
    conv => whnf
    refine Draw.quiet (by kernel_rfl) tt_ok (List.range 40) (by kernel_rfl) ?_
    conv => whnf
    refine CallOb.by' [23] [] (openE_c _ b23 y.user y.key hok.key) rfl ⟨rfl, rfl, rfl, fun _ _ => ⟨rfl, ?_⟩⟩
    conv => whnf
    refine Sub.parts [23, 24, 1] [0] ⟨rfl, rfl⟩ ?_
    conv => whnf
    refine Cond.neI (fun h => absurd rfl h) (fun _ => ?_)
    conv => whnf
    refine CallOb.pu (theirs_c _ y.c hok.id) rfl ?_
    conv => whnf
    refine Sub.parts [23, 24, 1] [0] ⟨rfl, rfl⟩ ?_
    conv => whnf
    refine CallOb.by' [23] [] (putE_c _ b23 y.now y.c hok.id none 0 0) rfl ⟨rfl, rfl, rfl, fun _ _ => ⟨rfl, ?_⟩⟩
    conv => whnf
    refine Sub.parts [23, 24, 1] [0] ⟨rfl, rfl⟩ ?_
    conv => whnf
    refine Cond.neI (fun h => absurd rfl h) (fun _ => ?_)
    conv => whnf
    refine Cond.neI (fun h => absurd rfl h) (fun _ => ?_)
    conv => whnf
    refine Cond.neI (fun h => absurd rfl h) (fun _ => ?_)
    conv => whnf
    refine CallOb.by' [23] [] (expireE_c _ b23 y.now) rfl ⟨rfl, rfl, rfl, fun _ _ => ⟨rfl, ?_⟩⟩
    conv => whnf
    refine Sub.parts [23, 24, 1] [0] ⟨rfl, rfl⟩ ?_
    conv => whnf
    refine Cond.neI (fun h => absurd rfl h) (fun _ => ?_)
    conv => whnf
    refine CallOb.by' [23] [] (lenE_c _ b23 y.user) rfl ⟨rfl, rfl, rfl, fun _ _ => ⟨rfl, ?_⟩⟩
    conv => whnf
    refine Sub.parts [23, 24, 1] [0] ⟨rfl, rfl⟩ ?_
    conv => whnf
    refine Cond.neI (fun h => absurd rfl h) (fun _ => ?_)
    conv => whnf
    refine Ar.i64 (by decide) ?_
    conv => whnf
    exact ⟨2, by decide, by decide, Wk.mk' [24, 23, 1] [0] ⟨⟨rfl, trivial⟩, ⟨rfl, trivial⟩, ⟨rfl, trivial⟩, ⟨rfl, trivial⟩, trivial⟩ ⟨⟨trivial, rfl, trivial, trivial⟩, (by repeat' (first | exact trivial | rfl | apply And.intro)), ⟨trivial, Ma.okL hok ta tc _⟩, trivial⟩ ⟨rfl, rfl⟩⟩
  | 2, _ =>
    conv => whnf
    refine Cond.dec (fun h => absurd h (by decide)) (fun _ => ?_)
    conv => whnf
    refine CallOb.by' [] [] (newB_c _ 4 (by decide)) rfl ⟨rfl, rfl, rfl, fun g _ => ⟨rfl, ?_⟩⟩
    conv => whnf
    refine CallOb.by' [] [0] (open_c _ g 4 [] 1 (by decide) (by simp) y.key hok.key) rfl ⟨rfl, rfl, rfl, fun gx _ => ⟨rfl, ?_⟩⟩
    conv => whnf
    refine Cond.neI (fun h => absurd rfl h) (fun _ => ?_)
    conv => whnf
    refine With.own0 5 1 ?_
    refine append_bytes (a := none) (n := 0) (cap := 0) (l := []) (k := y.b.length) (m := y.b) (src := .c (.rs ta y.b.length tc)) (.refl _) rfl rfl (Src.rs (A := old W) (by simp) hb.1) ⟨rfl, rfl⟩ (by omega) 34 (.inr rfl) ?_
    intro a8 c8 hc8 hn8
    rw [Nat.zero_add, List.nil_append] at *
    conv => whnf
    refine CallOb.by' [] [1] (put_b _ (Own a8 c8 5 1 (u8s y.b)) (Ent.all (by first | (simp; done) | (simp [M.props]; done) | (simp [M.props]; first | (left; rfl) | (right; left; rfl) | (right; right; left; rfl) | (right; right; right; left; rfl) | (right; right; right; right; left; rfl)) | exact (.head _ : List.Mem _ _) | exact (.tail _ (.head _) : List.Mem _ _) | exact (.tail _ (.tail _ (.head _)) : List.Mem _ _) | exact (.tail _ (.tail _ (.tail _ (.head _))) : List.Mem _ _) | exact (.tail _ (.tail _ (.tail _ (.tail _ (.head _)))) : List.Mem _ _) | exact (.tail _ (.tail _ (.tail _ (.tail _ (.tail _ (.head _))))) : List.Mem _ _) | exact (.tail _ (.tail _ (.tail _ (.tail _ (.tail _ (.tail _ (.head _)))))) : List.Mem _ _) | exact (.tail _ (.tail _ (.tail _ (.tail _ (.tail _ (.tail _ (.tail _ (.head _))))))) : List.Mem _ _) | exact (.tail _ (.tail _ (.tail _ (.tail _ (.tail _ (.tail _ (.tail _ (.tail _ (.head _)))))))) : List.Mem _ _))) g 4 [] [] ⟨1, y.key, [], 1, gx, none, 0⟩ 0 ⟨3, 1, 0, id0⟩ rfl rfl (by simp) a8 c8 y.b ⟨Own.rd, hc8, fun h => List.eq_nil_of_length_eq_zero (hn8 h)⟩ ⟨by decide, by decide, .inr rfl, by omega⟩ (by show (0 : Int) < 4; decide) (by show (1 : Int) < 1000000; decide)) rfl ⟨rfl, rfl, rfl, fun t1 _ => ⟨rfl, ?_⟩⟩
    conv => whnf
    refine Cond.neI (fun h => absurd rfl h) (fun _ => ?_)
    generalize hx1 : (Bx.put ⟨1, y.key, [], 1, gx, none, 0⟩ ⟨3, 1, 0, id0⟩ y.b 0 t1) = x1
    have x1l : x1.u = 1 ∧ x1.key = y.key ∧ x1.l.map Ly.ent = [(1, ⟨3, 1, 0, id0⟩, y.b)] := by rw [← hx1]; exact ⟨rfl, rfl, rfl⟩
    conv => whnf
    refine LoopOb.mk' (σ := Nat × List UInt8) (fun q => [(1, .c (.ptr 1 0)), (7, .c (.rp g 0)), (8, .c (.rs a8 y.b.length c8)), (102, .c (.int .i64 y.b.length)), (103, .c (.int .i64 q.1))])
      (fun q => ⟨[(1, b1)], [(1, y.sg ta tc, 36)], [Bs g 4 [x1], Own a8 c8 5 1 (u8s q.2), old W]⟩) (fun q => q.1 ≤ y.b.length ∧ q.2.length = y.b.length) (fun q => y.b.length - q.1) (0, y.b) ⟨Nat.zero_le _, rfl⟩
      (Wk.mk' [1] [0, 0, 0] (by repeat' (first | exact trivial | rfl | apply And.intro)) ⟨⟨trivial, Ma.okL hok ta tc _⟩, trivial⟩ ⟨rfl, rfl⟩) ?_
    rintro ⟨j, b'⟩ ⟨hj, hb'⟩
    dsimp only at hj hb' ⊢
    conv => whnf
    refine Cond.dec (fun h5 => ?_) (fun h5 => ?_)
    · have hr : Rd (Own a8 c8 5 1 (u8s b')) a8 (u8s b') := Own.rd
      conv => whnf
      refine ⟨by omega, PtrOb.rd (A := Own a8 c8 5 1 (u8s b')) (by simp) hr (by rw [u8s_length]; omega) fun p hp => ?_⟩
      have hr2 : Rd (Own a8 c8 5 1 (u8s b')) (some (radr p)) (u8s b') := by rw [← hp]; exact hr
      conv => whnf
      refine ldb (A := Own a8 c8 5 1 (u8s b')) j (by simp) hr2 (by omega) rfl rfl (by show _ + (j : Int).toNat * 1 = _ + j; omega) ?_
      conv => whnf
      refine ⟨by omega, PtrOb.rd (A := Own a8 c8 5 1 (u8s b')) (by simp) hr (by rw [u8s_length]; omega) fun p' hp' => ?_⟩
      obtain ⟨cx, hcx⟩ := xor_byte (gd b' j : Int) 255
      conv => whnf
      rw [hp']
      refine st_byte j cx (.swap _ _ _) rfl rfl (by show _ + (j : Int).toNat * 1 = _ + j; omega) hcx (by omega) ?_
      conv => whnf
      refine Ar.i64 (by omega) ?_
      conv => whnf
      exact ⟨(j + 1, b'.set j cx), ⟨by dsimp only; omega, by dsimp only; rw [List.length_set]; exact hb'⟩, by dsimp only; omega, Wk.mk' [1] [1, 0, 0] (by repeat' (first | exact trivial | rfl | apply And.intro)) ⟨⟨trivial, Ma.okL hok ta tc _⟩, trivial⟩ ⟨rfl, rfl⟩⟩
    conv => whnf
    refine CallOb.pu (proof_c _ (hK.ent (Ent.all (by first | (simp; done) | (simp [M.props]; done) | (simp [M.props]; first | (left; rfl) | (right; left; rfl) | (right; right; left; rfl) | (right; right; right; left; rfl) | (right; right; right; right; left; rfl)) | exact (.head _ : List.Mem _ _) | exact (.tail _ (.head _) : List.Mem _ _) | exact (.tail _ (.tail _ (.head _)) : List.Mem _ _) | exact (.tail _ (.tail _ (.tail _ (.head _))) : List.Mem _ _) | exact (.tail _ (.tail _ (.tail _ (.tail _ (.head _)))) : List.Mem _ _) | exact (.tail _ (.tail _ (.tail _ (.tail _ (.tail _ (.head _))))) : List.Mem _ _) | exact (.tail _ (.tail _ (.tail _ (.tail _ (.tail _ (.tail _ (.head _)))))) : List.Mem _ _) | exact (.tail _ (.tail _ (.tail _ (.tail _ (.tail _ (.tail _ (.tail _ (.head _))))))) : List.Mem _ _) | exact (.tail _ (.tail _ (.tail _ (.tail _ (.tail _ (.tail _ (.tail _ (.tail _ (.head _)))))))) : List.Mem _ _)))) y.key hok.key 0 1 0 (by decide) (by decide)) rfl ?_
    conv => whnf
    intro b10
    conv => whnf
    refine CallOb.by' [] [0] (fetch_b _ (hK.ent (Ent.all (by first | (simp; done) | (simp [M.props]; done) | (simp [M.props]; first | (left; rfl) | (right; left; rfl) | (right; right; left; rfl) | (right; right; right; left; rfl) | (right; right; right; right; left; rfl)) | exact (.head _ : List.Mem _ _) | exact (.tail _ (.head _) : List.Mem _ _) | exact (.tail _ (.tail _ (.head _)) : List.Mem _ _) | exact (.tail _ (.tail _ (.tail _ (.head _))) : List.Mem _ _) | exact (.tail _ (.tail _ (.tail _ (.tail _ (.head _)))) : List.Mem _ _) | exact (.tail _ (.tail _ (.tail _ (.tail _ (.tail _ (.head _))))) : List.Mem _ _) | exact (.tail _ (.tail _ (.tail _ (.tail _ (.tail _ (.tail _ (.head _)))))) : List.Mem _ _) | exact (.tail _ (.tail _ (.tail _ (.tail _ (.tail _ (.tail _ (.tail _ (.head _))))))) : List.Mem _ _) | exact (.tail _ (.tail _ (.tail _ (.tail _ (.tail _ (.tail _ (.tail _ (.tail _ (.head _)))))))) : List.Mem _ _)))) g 4 [] [] x1 0 1 0 x1l.1 (by simp) (by decide) (by decide) (proofD y.key 0 1 0) (proofD_len _ _ _ _) (by rw [x1l.2.1])) rfl ⟨rfl, rfl, rfl, fun f1 hf1 => ⟨rfl, ?_⟩⟩
    have e1 := fx_ent hf1
    rw [x1l.2.2] at e1
    have e1 : f1.es.map En.ent = [(1, ⟨3, 1, 0, id0⟩, y.b)] := e1
    have x2e := left_ent x1 0
    rw [x1l.2.2] at x2e
    have x2e : (x1.left 0).l.map Ly.ent = [(1, ⟨3, 1, 0, id0⟩, y.b)] := x2e
    have x2u : (x1.left 0).u = 1 := x1l.1
    have x2k : (x1.left 0).key = y.key := x1l.2.1
    have hk16 := many_ok (proofD_len y.key 0 1 0)
    generalize x1.left 0 = x2 at x2e x2u x2k ⊢
    obtain ⟨es1, ao1, co1⟩ := f1
    dsimp only at e1 ⊢
    obtain ⟨m0, rfl, h0⟩ := one_of e1
    obtain ⟨a0, c0, rfl⟩ := En.of h0
    conv => whnf
    refine Draw.either (by kernel_rfl) tt_ok (Tr.of [0, 1, 2, 3, 4, 5, 6, 7, 8, 9, 10, 11, 13, 14] (.two 12 (.one 15 (.one 16 (.one 17 .nil))) 15 (.one 12 (.one 16 (.one 17 .nil))))) 1000000 (by kernel_rfl) ?_
    conv => whnf
    refine Cond.neI (fun h => absurd rfl h) (fun _ => ?_)
    conv => whnf
    refine Cond.neI (fun h => absurd rfl h) (fun _ => ?_)
    generalize hE1 : (⟨1, ⟨3, 1, 0, id0⟩, y.b, a0, c0⟩ : En) = E1
    have E1b : E1.b = y.b ∧ E1.a = a0 ∧ E1.cap = c0 := by rw [← hE1]; exact ⟨rfl, rfl, rfl⟩
    conv => whnf
    refine ⟨by show (0 : Int) ≤ 0 ∧ (0 : Int) < ((1 : Nat) : Int); decide, PtrOb.rd (A := Own ao1 co1 49 13 (rowE [E1])) (by simp) Own.rd (by rw [← hE1]; show 0 < 13; decide) fun q hq => ?_⟩
    have hr : Rd (Own ao1 co1 49 13 (rowE [E1])) (some (radr q)) (rowE [E1]) := by rw [← hq]; exact Own.rd
    conv => whnf
    refine ld (A := Own ao1 co1 49 13 (rowE [E1])) 12 (.rs a0 y.b.length c0) rfl (by simp) hr rfl rfl (by rw [← hE1]; rfl) trivial ?_
    conv => whnf
    refine ⟨?_, ?_⟩
    · conv => whnf
      refine conv_str (l := y.b) (k := y.b.length) (x := .c (.rs a0 y.b.length c0)) Tryd.underlying34 Tryd.underlying5 Tryd.underlying9 (Src.rs (A := owes [E1]) (by simp) (Rd.all (A := oweb E1) (by simp) (by rw [← E1b.1, ← E1b.2.1]; exact Own.rd))) rfl (fun s h => by cases h) ?_
      conv => whnf
      refine Sub.whole ?_
      conv => whnf
      refine conv_str (l := y.b) (k := y.b.length) (x := .c (.rs ta y.b.length tc)) Tryd.underlying34 Tryd.underlying5 Tryd.underlying9 (Src.rs (A := old W) (by simp) hb.1) rfl (fun s h => by cases h) ?_
      conv => whnf
      refine Sub.whole ?_
      conv => whnf
      refine Cond.not (Cond.str (fun _ => ?_) (fun h => absurd rfl h))
      subst hE1
      subst hq
      conv => whnf
      refine ⟨by show (0 : Int) ≤ 0 ∧ (0 : Int) < ((1 : Nat) : Int); decide, PtrOb.at ?_⟩
      conv => whnf
      refine ld (A := Own (some (radr q)) co1 49 13 (rowE [⟨1, ⟨3, 1, 0, id0⟩, y.b, a0, c0⟩])) 12 (.rs a0 y.b.length c0) rfl (by simp) hr rfl rfl rfl trivial ?_
      conv => whnf
      refine LoopOb.mk' (σ := Nat × List UInt8) (fun q' => [(1, .c (.ptr 1 0)), (7, .c (.rp g 0)), (10, .c (.ptr 10 0)), (11, .c (.rs (some (radr q)) 1 co1)), (144, .c (.int .i64 y.b.length)), (145, .c (.int .i64 q'.1))])
        (fun q' => ⟨[(10, b10), (1, b1)], [(10, [.many 16 (u8s (proofD y.key 0 1 0))], 45), (1, y.sg ta tc, 36)], [Bs g 4 [x2], Own (some (radr q)) co1 49 13 (rowE [⟨1, ⟨3, 1, 0, id0⟩, y.b, a0, c0⟩]), Own a0 c0 5 1 (u8s q'.2), Own a8 c8 5 1 (u8s b'), old W]⟩) (fun q' => q'.1 ≤ y.b.length ∧ q'.2.length = y.b.length) (fun q' => y.b.length - q'.1) (0, y.b) ⟨Nat.zero_le _, rfl⟩ ?_ ?_
      · refine Wk.turn (fun _ s => owes_one (l₁ := [Bs g 4 [x2], Own (some (radr q)) co1 49 13 (rowE [⟨1, ⟨3, 1, 0, id0⟩, y.b, a0, c0⟩])]) s) ?_
        exact Wk.mk' [10, 1] [0, 0, 0, 0, 0] (by repeat' (first | exact trivial | rfl | apply And.intro)) ⟨⟨trivial, hk16 _, trivial⟩, ⟨trivial, Ma.okL hok ta tc _⟩, trivial⟩ ⟨rfl, rfl⟩
      rintro ⟨j1, b1'⟩ ⟨hj1, hb1'⟩
      dsimp only at hj1 hb1' ⊢
      conv => whnf
      refine Cond.dec (fun h6 => ?_) (fun h6 => ?_)
      · have hr1 : Rd (Own a0 c0 5 1 (u8s b1')) a0 (u8s b1') := Own.rd
        conv => whnf
        refine ⟨by show (0 : Int) ≤ 0 ∧ (0 : Int) < ((1 : Nat) : Int); decide, PtrOb.at ?_⟩
        conv => whnf
        refine ld (A := Own (some (radr q)) co1 49 13 (rowE [⟨1, ⟨3, 1, 0, id0⟩, y.b, a0, c0⟩])) 12 (.rs a0 y.b.length c0) rfl (by simp) hr rfl rfl rfl trivial ?_
        conv => whnf
        refine ⟨by omega, PtrOb.rd (A := Own a0 c0 5 1 (u8s b1')) (by simp) hr1 (by rw [u8s_length]; omega) fun p hp => ?_⟩
        have hr2 : Rd (Own a0 c0 5 1 (u8s b1')) (some (radr p)) (u8s b1') := by rw [← hp]; exact hr1
        conv => whnf
        refine ldb (A := Own a0 c0 5 1 (u8s b1')) j1 (by simp) hr2 (by omega) rfl rfl (by show _ + (j1 : Int).toNat * 1 = _ + j1; omega) ?_
        conv => whnf
        refine ⟨by omega, PtrOb.rd (A := Own a0 c0 5 1 (u8s b1')) (by simp) hr1 (by rw [u8s_length]; omega) fun p' hp' => ?_⟩
        obtain ⟨cx, hcx⟩ := xor_byte (gd b1' j1 : Int) 255
        conv => whnf
        rw [hp']
        refine st_byte j1 cx (List.perm_middle (l₁ := [_, _])) rfl rfl (by show _ + (j1 : Int).toNat * 1 = _ + j1; omega) hcx (by omega) ?_
        conv => whnf
        refine Ar.i64 (by omega) ?_
        conv => whnf
        exact ⟨(j1 + 1, b1'.set j1 cx), ⟨by dsimp only; omega, by dsimp only; rw [List.length_set]; exact hb1'⟩, by dsimp only; omega, Wk.mk' [10, 1] [1, 1, 0, 0, 0] (by repeat' (first | exact trivial | rfl | apply And.intro)) ⟨⟨trivial, hk16 _, trivial⟩, ⟨trivial, Ma.okL hok ta tc _⟩, trivial⟩ ⟨rfl, rfl⟩⟩
      conv => whnf
      refine CallOb.by' [] [0] (fetch_b _ (hK.ent (Ent.all (by first | (simp; done) | (simp [M.props]; done) | (simp [M.props]; first | (left; rfl) | (right; left; rfl) | (right; right; left; rfl) | (right; right; right; left; rfl) | (right; right; right; right; left; rfl)) | exact (.head _ : List.Mem _ _) | exact (.tail _ (.head _) : List.Mem _ _) | exact (.tail _ (.tail _ (.head _)) : List.Mem _ _) | exact (.tail _ (.tail _ (.tail _ (.head _))) : List.Mem _ _) | exact (.tail _ (.tail _ (.tail _ (.tail _ (.head _)))) : List.Mem _ _) | exact (.tail _ (.tail _ (.tail _ (.tail _ (.tail _ (.head _))))) : List.Mem _ _) | exact (.tail _ (.tail _ (.tail _ (.tail _ (.tail _ (.tail _ (.head _)))))) : List.Mem _ _) | exact (.tail _ (.tail _ (.tail _ (.tail _ (.tail _ (.tail _ (.tail _ (.head _))))))) : List.Mem _ _) | exact (.tail _ (.tail _ (.tail _ (.tail _ (.tail _ (.tail _ (.tail _ (.tail _ (.head _)))))))) : List.Mem _ _)))) g 4 [] [] x2 0 1 0 x2u (by simp) (by decide) (by decide) (proofD y.key 0 1 0) (proofD_len _ _ _ _) (by rw [x2k])) rfl ⟨rfl, rfl, rfl, fun f2 hf2 => ⟨rfl, ?_⟩⟩
      have e2 := fx_ent hf2
      rw [x2e] at e2
      have e2 : f2.es.map En.ent = [(1, ⟨3, 1, 0, id0⟩, y.b)] := e2
      generalize x2.left 0 = x3
      obtain ⟨es2, ao2, co2⟩ := f2
      dsimp only at e2 ⊢
      obtain ⟨m2, rfl, h2⟩ := one_of e2
      obtain ⟨a2, c2, rfl⟩ := En.of h2
      conv => whnf
      refine Draw.either (by kernel_rfl) tt_ok (Tr.of [0, 1, 2, 3, 4, 5, 6, 7, 8, 9, 10, 11, 13, 14] (.two 12 (.one 15 (.one 16 (.one 17 (.one 18 .nil)))) 15 (.one 12 (.one 16 (.one 17 (.one 18 .nil)))))) 1000000 (by kernel_rfl) ?_
      conv => whnf
      refine Cond.eqI (fun _ => ?_) (fun h => absurd rfl h)
      conv => whnf
      refine Cond.eqI (fun _ => ?_) (fun h => absurd rfl h)
      generalize hE2 : (⟨1, ⟨3, 1, 0, id0⟩, y.b, a2, c2⟩ : En) = E2
      have E2b : E2.b = y.b ∧ E2.a = a2 ∧ E2.cap = c2 := by rw [← hE2]; exact ⟨rfl, rfl, rfl⟩
      conv => whnf
      refine ⟨by show (0 : Int) ≤ 0 ∧ (0 : Int) < ((1 : Nat) : Int); decide, PtrOb.rd (A := Own ao2 co2 49 13 (rowE [E2])) (by simp) Own.rd (by rw [← hE2]; show 0 < 13; decide) fun q2 hq2 => ?_⟩
      have hr3 : Rd (Own ao2 co2 49 13 (rowE [E2])) (some (radr q2)) (rowE [E2]) := by rw [← hq2]; exact Own.rd
      conv => whnf
      refine ld (A := Own ao2 co2 49 13 (rowE [E2])) 12 (.rs a2 y.b.length c2) rfl (by simp) hr3 rfl rfl (by rw [← hE2]; rfl) trivial ?_
      conv => whnf
      refine ⟨?_, ?_⟩
      · conv => whnf
        refine conv_str (l := y.b) (k := y.b.length) (x := .c (.rs a2 y.b.length c2)) Tryd.underlying34 Tryd.underlying5 Tryd.underlying9 (Src.rs (A := owes [E2]) (by simp) (Rd.all (A := oweb E2) (by simp) (by rw [← E2b.1, ← E2b.2.1]; exact Own.rd))) rfl (fun s h => by cases h) ?_
        conv => whnf
        refine Sub.whole ?_
        conv => whnf
        refine conv_str (l := y.b) (k := y.b.length) (x := .c (.rs ta y.b.length tc)) Tryd.underlying34 Tryd.underlying5 Tryd.underlying9 (Src.rs (A := old W) (by simp) hb.1) rfl (fun s h => by cases h) ?_
        conv => whnf
        refine Sub.whole ?_
        conv => whnf
        rw [beq_self_eq_true]
        exact Ret.mk' () [] [6] trivial rfl (by repeat' (first | exact trivial | rfl | apply And.intro)) (by repeat' (first | exact trivial | rfl | apply And.intro)) ⟨rfl, rfl⟩
      · conv => whnf
        refine conv_str (l := y.b) (k := y.b.length) (x := .c (.rs ta y.b.length tc)) Tryd.underlying34 Tryd.underlying5 Tryd.underlying9 (Src.rs (A := old W) (by simp) hb.1) rfl (fun s h => by cases h) ?_
        conv => whnf
        refine Sub.whole ?_
        conv => whnf
        refine conv_str (l := y.b) (k := y.b.length) (x := .c (.rs a2 y.b.length c2)) Tryd.underlying34 Tryd.underlying5 Tryd.underlying9 (Src.rs (A := owes [E2]) (by simp) (Rd.all (A := oweb E2) (by simp) (by rw [← E2b.1, ← E2b.2.1]; exact Own.rd))) rfl (fun s h => by cases h) ?_
        conv => whnf
        refine Sub.whole ?_
        conv => whnf
        rw [beq_self_eq_true]
        exact Ret.mk' () [] [6] trivial rfl (by repeat' (first | exact trivial | rfl | apply And.intro)) (by repeat' (first | exact trivial | rfl | apply And.intro)) ⟨rfl, rfl⟩
    · conv => whnf
      refine conv_str (l := y.b) (k := y.b.length) (x := .c (.rs ta y.b.length tc)) Tryd.underlying34 Tryd.underlying5 Tryd.underlying9 (Src.rs (A := old W) (by simp) hb.1) rfl (fun s h => by cases h) ?_
      conv => whnf
      refine Sub.whole ?_
      conv => whnf
      refine conv_str (l := y.b) (k := y.b.length) (x := .c (.rs a0 y.b.length c0)) Tryd.underlying34 Tryd.underlying5 Tryd.underlying9 (Src.rs (A := owes [E1]) (by simp) (Rd.all (A := oweb E1) (by simp) (by rw [← E1b.1, ← E1b.2.1]; exact Own.rd))) rfl (fun s h => by cases h) ?_
      conv => whnf
      refine Sub.whole ?_
      conv => whnf
      refine Cond.not (Cond.str (fun _ => ?_) (fun h => absurd rfl h))
      subst hE1
      subst hq
      conv => whnf
      refine ⟨by show (0 : Int) ≤ 0 ∧ (0 : Int) < ((1 : Nat) : Int); decide, PtrOb.at ?_⟩
      conv => whnf
      refine ld (A := Own (some (radr q)) co1 49 13 (rowE [⟨1, ⟨3, 1, 0, id0⟩, y.b, a0, c0⟩])) 12 (.rs a0 y.b.length c0) rfl (by simp) hr rfl rfl rfl trivial ?_
      conv => whnf
      refine LoopOb.mk' (σ := Nat × List UInt8) (fun q' => [(1, .c (.ptr 1 0)), (7, .c (.rp g 0)), (10, .c (.ptr 10 0)), (11, .c (.rs (some (radr q)) 1 co1)), (144, .c (.int .i64 y.b.length)), (145, .c (.int .i64 q'.1))])
        (fun q' => ⟨[(10, b10), (1, b1)], [(10, [.many 16 (u8s (proofD y.key 0 1 0))], 45), (1, y.sg ta tc, 36)], [Bs g 4 [x2], Own (some (radr q)) co1 49 13 (rowE [⟨1, ⟨3, 1, 0, id0⟩, y.b, a0, c0⟩]), Own a0 c0 5 1 (u8s q'.2), Own a8 c8 5 1 (u8s b'), old W]⟩) (fun q' => q'.1 ≤ y.b.length ∧ q'.2.length = y.b.length) (fun q' => y.b.length - q'.1) (0, y.b) ⟨Nat.zero_le _, rfl⟩ ?_ ?_
      · refine Wk.turn (fun _ s => owes_one (l₁ := [Bs g 4 [x2], Own (some (radr q)) co1 49 13 (rowE [⟨1, ⟨3, 1, 0, id0⟩, y.b, a0, c0⟩])]) s) ?_
        exact Wk.mk' [10, 1] [0, 0, 0, 0, 0] (by repeat' (first | exact trivial | rfl | apply And.intro)) ⟨⟨trivial, hk16 _, trivial⟩, ⟨trivial, Ma.okL hok ta tc _⟩, trivial⟩ ⟨rfl, rfl⟩
      rintro ⟨j1, b1'⟩ ⟨hj1, hb1'⟩
      dsimp only at hj1 hb1' ⊢
      conv => whnf
      refine Cond.dec (fun h6 => ?_) (fun h6 => ?_)
      · have hr1 : Rd (Own a0 c0 5 1 (u8s b1')) a0 (u8s b1') := Own.rd
        conv => whnf
        refine ⟨by show (0 : Int) ≤ 0 ∧ (0 : Int) < ((1 : Nat) : Int); decide, PtrOb.at ?_⟩
        conv => whnf
        refine ld (A := Own (some (radr q)) co1 49 13 (rowE [⟨1, ⟨3, 1, 0, id0⟩, y.b, a0, c0⟩])) 12 (.rs a0 y.b.length c0) rfl (by simp) hr rfl rfl rfl trivial ?_
        conv => whnf
        refine ⟨by omega, PtrOb.rd (A := Own a0 c0 5 1 (u8s b1')) (by simp) hr1 (by rw [u8s_length]; omega) fun p hp => ?_⟩
        have hr2 : Rd (Own a0 c0 5 1 (u8s b1')) (some (radr p)) (u8s b1') := by rw [← hp]; exact hr1
        conv => whnf
        refine ldb (A := Own a0 c0 5 1 (u8s b1')) j1 (by simp) hr2 (by omega) rfl rfl (by show _ + (j1 : Int).toNat * 1 = _ + j1; omega) ?_
        conv => whnf
        refine ⟨by omega, PtrOb.rd (A := Own a0 c0 5 1 (u8s b1')) (by simp) hr1 (by rw [u8s_length]; omega) fun p' hp' => ?_⟩
        obtain ⟨cx, hcx⟩ := xor_byte (gd b1' j1 : Int) 255
        conv => whnf
        rw [hp']
        refine st_byte j1 cx (List.perm_middle (l₁ := [_, _])) rfl rfl (by show _ + (j1 : Int).toNat * 1 = _ + j1; omega) hcx (by omega) ?_
        conv => whnf
        refine Ar.i64 (by omega) ?_
        conv => whnf
        exact ⟨(j1 + 1, b1'.set j1 cx), ⟨by dsimp only; omega, by dsimp only; rw [List.length_set]; exact hb1'⟩, by dsimp only; omega, Wk.mk' [10, 1] [1, 1, 0, 0, 0] (by repeat' (first | exact trivial | rfl | apply And.intro)) ⟨⟨trivial, hk16 _, trivial⟩, ⟨trivial, Ma.okL hok ta tc _⟩, trivial⟩ ⟨rfl, rfl⟩⟩
      conv => whnf
      refine CallOb.by' [] [0] (fetch_b _ (hK.ent (Ent.all (by first | (simp; done) | (simp [M.props]; done) | (simp [M.props]; first | (left; rfl) | (right; left; rfl) | (right; right; left; rfl) | (right; right; right; left; rfl) | (right; right; right; right; left; rfl)) | exact (.head _ : List.Mem _ _) | exact (.tail _ (.head _) : List.Mem _ _) | exact (.tail _ (.tail _ (.head _)) : List.Mem _ _) | exact (.tail _ (.tail _ (.tail _ (.head _))) : List.Mem _ _) | exact (.tail _ (.tail _ (.tail _ (.tail _ (.head _)))) : List.Mem _ _) | exact (.tail _ (.tail _ (.tail _ (.tail _ (.tail _ (.head _))))) : List.Mem _ _) | exact (.tail _ (.tail _ (.tail _ (.tail _ (.tail _ (.tail _ (.head _)))))) : List.Mem _ _) | exact (.tail _ (.tail _ (.tail _ (.tail _ (.tail _ (.tail _ (.tail _ (.head _))))))) : List.Mem _ _) | exact (.tail _ (.tail _ (.tail _ (.tail _ (.tail _ (.tail _ (.tail _ (.tail _ (.head _)))))))) : List.Mem _ _)))) g 4 [] [] x2 0 1 0 x2u (by simp) (by decide) (by decide) (proofD y.key 0 1 0) (proofD_len _ _ _ _) (by rw [x2k])) rfl ⟨rfl, rfl, rfl, fun f2 hf2 => ⟨rfl, ?_⟩⟩
      have e2 := fx_ent hf2
      rw [x2e] at e2
      have e2 : f2.es.map En.ent = [(1, ⟨3, 1, 0, id0⟩, y.b)] := e2
      generalize x2.left 0 = x3
      obtain ⟨es2, ao2, co2⟩ := f2
      dsimp only at e2 ⊢
      obtain ⟨m2, rfl, h2⟩ := one_of e2
      obtain ⟨a2, c2, rfl⟩ := En.of h2
      conv => whnf
      refine Draw.either (by kernel_rfl) tt_ok (Tr.of [0, 1, 2, 3, 4, 5, 6, 7, 8, 9, 10, 11, 13, 14] (.two 12 (.one 15 (.one 16 (.one 17 (.one 18 .nil)))) 15 (.one 12 (.one 16 (.one 17 (.one 18 .nil)))))) 1000000 (by kernel_rfl) ?_
      conv => whnf
      refine Cond.eqI (fun _ => ?_) (fun h => absurd rfl h)
      conv => whnf
      refine Cond.eqI (fun _ => ?_) (fun h => absurd rfl h)
      generalize hE2 : (⟨1, ⟨3, 1, 0, id0⟩, y.b, a2, c2⟩ : En) = E2
      have E2b : E2.b = y.b ∧ E2.a = a2 ∧ E2.cap = c2 := by rw [← hE2]; exact ⟨rfl, rfl, rfl⟩
      conv => whnf
      refine ⟨by show (0 : Int) ≤ 0 ∧ (0 : Int) < ((1 : Nat) : Int); decide, PtrOb.rd (A := Own ao2 co2 49 13 (rowE [E2])) (by simp) Own.rd (by rw [← hE2]; show 0 < 13; decide) fun q2 hq2 => ?_⟩
      have hr3 : Rd (Own ao2 co2 49 13 (rowE [E2])) (some (radr q2)) (rowE [E2]) := by rw [← hq2]; exact Own.rd
      conv => whnf
      refine ld (A := Own ao2 co2 49 13 (rowE [E2])) 12 (.rs a2 y.b.length c2) rfl (by simp) hr3 rfl rfl (by rw [← hE2]; rfl) trivial ?_
      conv => whnf
      refine ⟨?_, ?_⟩
      · conv => whnf
        refine conv_str (l := y.b) (k := y.b.length) (x := .c (.rs a2 y.b.length c2)) Tryd.underlying34 Tryd.underlying5 Tryd.underlying9 (Src.rs (A := owes [E2]) (by simp) (Rd.all (A := oweb E2) (by simp) (by rw [← E2b.1, ← E2b.2.1]; exact Own.rd))) rfl (fun s h => by cases h) ?_
        conv => whnf
        refine Sub.whole ?_
        conv => whnf
        refine conv_str (l := y.b) (k := y.b.length) (x := .c (.rs ta y.b.length tc)) Tryd.underlying34 Tryd.underlying5 Tryd.underlying9 (Src.rs (A := old W) (by simp) hb.1) rfl (fun s h => by cases h) ?_
        conv => whnf
        refine Sub.whole ?_
        conv => whnf
        rw [beq_self_eq_true]
        exact Ret.mk' () [] [6] trivial rfl (by repeat' (first | exact trivial | rfl | apply And.intro)) (by repeat' (first | exact trivial | rfl | apply And.intro)) ⟨rfl, rfl⟩
      · conv => whnf
        refine conv_str (l := y.b) (k := y.b.length) (x := .c (.rs ta y.b.length tc)) Tryd.underlying34 Tryd.underlying5 Tryd.underlying9 (Src.rs (A := old W) (by simp) hb.1) rfl (fun s h => by cases h) ?_
        conv => whnf
        refine Sub.whole ?_
        conv => whnf
        refine conv_str (l := y.b) (k := y.b.length) (x := .c (.rs a2 y.b.length c2)) Tryd.underlying34 Tryd.underlying5 Tryd.underlying9 (Src.rs (A := owes [E2]) (by simp) (Rd.all (A := oweb E2) (by simp) (by rw [← E2b.1, ← E2b.2.1]; exact Own.rd))) rfl (fun s h => by cases h) ?_
        conv => whnf
        refine Sub.whole ?_
        conv => whnf
        rw [beq_self_eq_true]
        exact Ret.mk' () [] [6] trivial rfl (by repeat' (first | exact trivial | rfl | apply And.intro)) (by repeat' (first | exact trivial | rfl | apply And.intro)) ⟨rfl, rfl⟩
end Go.Proofs.YtiimeklgjoclpaaDoor
