/- Boxes: the calls over all boxes; what the document fixes is answered. -/
import Derived.Test.YtiimeklgjoclpaaDoorMd
namespace Go.Proofs.YtiimeklgjoclpaaDoor
open Go.Sx
set_option maxRecDepth 100000
set_option pp.deepTerms false
set_option pp.maxSteps 300
set_option linter.unusedSimpArgs false
set_option linter.unusedVariables false

theorem put_b (A R : HProp) (hE : Ent A R) (g : Nat) (room : Int) (pre post : List Bx) (x : Bx) (now : Int) (c : Cmd) (hc : c.id.length = 8) (hx : x.u = c.n) (hpre : ∀ y ∈ pre, y.u ≠ c.n) (a : Option Addr) (cap : Nat) (b : List UInt8) (hb : Bts R a cap b)
    (hp : putOk now c b) (hroom : x.l.length < room) (hnx : x.next < 1000000) :
    Con Tryd.prog 10 [.c (.rp g 0), .c (.int .i64 now), .agg c.sg, .c (.rs a b.length cap)] [] [Bs g room (pre ++ x :: post)] A (fun _ : PutX => True) (fun _ => .c (.int .i64 0)) (fun _ => []) (fun t => [Bs g room (pre ++ (x.put c b now t) :: post)]) :=
  Con.imp (put_c A R hE g room pre post x now c hc hx hpre a cap b hb hp hroom hnx) (fun _ s => bs_iff.1 s) (fun _ _ _ s => bs_iff.2 s)
theorem putFull_b (A : HProp) (g : Nat) (room : Int) (pre post : List Bx) (x : Bx) (now : Int) (c : Cmd) (hc : c.id.length = 8) (hx : x.u = c.n) (hpre : ∀ y ∈ pre, y.u ≠ c.n) (a : Option Addr) (cap : Nat) (b : List UInt8)
    (hp : putOk now c b) (hroom : room ≤ x.l.length) :
    Con Tryd.prog 10 [.c (.rp g 0), .c (.int .i64 now), .agg c.sg, .c (.rs a b.length cap)] [] [Bs g room (pre ++ x :: post)] A (fun _ : Unit => True) (fun _ => .c (.int .i64 8)) (fun _ => []) (fun _ => [Bs g room (pre ++ x :: post)]) :=
  Con.imp (putFull_c A g room pre post x now c hc hx hpre a cap b hp hroom) (fun _ s => bs_iff.1 s) (fun _ _ _ s => bs_iff.2 s)
theorem len_b (A : HProp) (g : Nat) (room : Int) (pre post : List Bx) (x : Bx) (n : Int) (hx : x.u = n) (hp : ∀ y ∈ pre, y.u ≠ n) :
    Con Tryd.prog 13 [.c (.rp g 0), .c (.int .i64 n)] [] [Bs g room (pre ++ x :: post)] A (fun _ : Unit => True) (fun _ => .c (.int .i64 x.l.length)) (fun _ => []) (fun _ => [Bs g room (pre ++ x :: post)]) :=
  Con.imp (lenF_c A g room pre post x n hx hp) (fun _ s => bs_iff.1 s) (fun _ _ _ s => bs_iff.2 s)
theorem fetchKey_b (A : HProp) (hK : Gl A) (g : Nat) (room : Int) (pre post : List Bx) (x : Bx) (now who ack : Int) (hx : x.u = who) (hpre : ∀ y ∈ pre, y.u ≠ who) (hnow : now ≥ 0 ∧ now ≤ 1099511627776) (hack : 0 ≤ ack ∧ ack ≤ 9223372036854775807)
    (p : List UInt8) (hp : p.length = 16) (hne : proofD x.key now who ack ≠ p) :
    Con Tryd.prog 11 [.c (.rp g 0), .c (.int .i64 now), .c (.int .i64 who), .c (.int .i64 ack), .agg [.many 16 (u8s p)]] [] [Bs g room (pre ++ x :: post)] A (fun _ : Unit => True) (fun _ => .tup [.c (.rs none 0 0), .c (.int .i64 15)]) (fun _ => []) (fun _ => [Bs g room (pre ++ x :: post)]) :=
  Con.imp (fetchKey_c A hK g room pre post x now who ack hx hpre hnow hack p hp hne) (fun _ s => bs_iff.1 s) (fun _ _ _ s => bs_iff.2 s)
theorem fetch_b (A : HProp) (hK : Gl A) (g : Nat) (room : Int) (pre post : List Bx) (x : Bx) (now who ack : Int) (hx : x.u = who) (hpre : ∀ y ∈ pre, y.u ≠ who) (hnow : now ≥ 0 ∧ now ≤ 1099511627776) (hack : 0 ≤ ack ∧ ack ≤ 9223372036854775807)
    (p : List UInt8) (hp : p.length = 16) (heq : proofD x.key now who ack = p) :
    Con Tryd.prog 11 [.c (.rp g 0), .c (.int .i64 now), .c (.int .i64 who), .c (.int .i64 ack), .agg [.many 16 (u8s p)]] [] [Bs g room (pre ++ x :: post)] A (fun t : FX => t.ok ((x.l.filter fun y => !decide (y.seq ≤ ack)).take 8)) (fun t => .tup [.c (.rs t.ao t.es.length t.co), .c (.int .i64 0)]) (fun _ => [])
      (fun t => [Bs g room (pre ++ (x.left ack) :: post), Own t.ao t.co 49 13 (rowE t.es), owes t.es]) :=
  Con.imp (fetch_c A hK g room pre post x now who ack hx hpre hnow hack p hp heq) (fun _ s => bs_iff.1 s) (fun _ _ _ s => bs_iff.2 s)

def k4 : List UInt8 := 4 :: List.replicate 31 0
theorem tag_ne : proofD k4 7 3 1 ≠ 1 :: List.replicate 15 0 := by decide +kernel
def c3 : Cmd := ⟨2, 3, 0, id0⟩
theorem ok3 (b : List UInt8) (h : b.length ≤ 4096) : putOk 5 c3 b := ⟨by decide, by decide, .inl rfl, h⟩
theorem left_ent (x : Bx) (ack : Int) : (x.left ack).l.map Ly.ent = (x.l.map Ly.ent).filter fun e => !decide (e.1 ≤ ack) := by
  rw [List.filter_map]; rfl
theorem fx_ent {x : Bx} {ack : Int} {t : FX} (h : t.ok ((x.l.filter fun y => !decide (y.seq ≤ ack)).take 8)) : t.es.map En.ent = ((x.l.map Ly.ent).filter fun e => !decide (e.1 ≤ ack)).take 8 := by
  rw [h.es, List.map_take, ← left_ent]
theorem En.of {y : En} {a : Int} {c : Cmd} {b : List UInt8} (h : y.ent = (a, c, b)) : ∃ p q, y = ⟨a, c, b, p, q⟩ := by
  cases y; simp only [En.ent, Prod.mk.injEq] at h; obtain ⟨rfl, rfl, rfl⟩ := h; exact ⟨_, _, rfl⟩
theorem two_of {l : List En} {a b : Int × Cmd × List UInt8} (h : l.map En.ent = [a, b]) : ∃ x y, l = [x, y] ∧ x.ent = a ∧ y.ent = b := by
  match l with
  | [] => simp at h
  | [x] => simp at h
  | [x, y] => simp at h; exact ⟨x, y, rfl, h.1, h.2⟩
  | _ :: _ :: _ :: _ => simp at h
theorem one_of {l : List En} {a : Int × Cmd × List UInt8} (h : l.map En.ent = [a]) : ∃ x, l = [x] ∧ x.ent = a := by
  match l with
  | [] => simp at h
  | [x] => simp at h; exact ⟨x, rfl, h⟩
  | _ :: _ :: _ => simp at h
theorem alive_c (A : HProp) (hK : Gl A) : Pu Tryd.prog 7 [] A (.c .tt) := by
  refine Con.of' tt_ok Tryd.func7 rfl (by decide) [] [] [] rfl rfl trivial (by repeat' (first | exact trivial | rfl | apply And.intro)) rfl ?_
  conv => whnf
  refine CallOb.by' [] [] (newB_c _ 2 (by decide)) rfl ⟨rfl, rfl, rfl, fun g _ => ⟨rfl, ?_⟩⟩
  conv => whnf
  intro b2
  conv => whnf
  intro b3
  conv => whnf
  refine CallOb.by' [] [0] (open_c _ g 2 [] 3 (by decide) (by simp) k4 rfl) rfl ⟨rfl, rfl, rfl, fun gx _ => ⟨rfl, ?_⟩⟩
  conv => whnf
  refine Cond.neI (fun h => absurd rfl h) (fun _ => ?_)
  conv => whnf
  intro b24
  conv => whnf
  refine conv_slc 24 1 Tryd.underlying34 Tryd.underlying5 ⟨_, _, rfl, rfl, ?_⟩
  conv => whnf
  refine CallOb.by' [] [1] (put_b _ (Own (some (radr (b24, 0))) 1 5 1 (u8s [97])) (Ent.all (by first | (simp; done) | (simp [M.props]; done) | (simp [M.props]; first | (left; rfl) | (right; left; rfl) | (right; right; left; rfl) | (right; right; right; left; rfl) | (right; right; right; right; left; rfl)) | exact (.head _ : List.Mem _ _) | exact (.tail _ (.head _) : List.Mem _ _) | exact (.tail _ (.tail _ (.head _)) : List.Mem _ _) | exact (.tail _ (.tail _ (.tail _ (.head _))) : List.Mem _ _) | exact (.tail _ (.tail _ (.tail _ (.tail _ (.head _)))) : List.Mem _ _) | exact (.tail _ (.tail _ (.tail _ (.tail _ (.tail _ (.head _))))) : List.Mem _ _) | exact (.tail _ (.tail _ (.tail _ (.tail _ (.tail _ (.tail _ (.head _)))))) : List.Mem _ _) | exact (.tail _ (.tail _ (.tail _ (.tail _ (.tail _ (.tail _ (.tail _ (.head _))))))) : List.Mem _ _) | exact (.tail _ (.tail _ (.tail _ (.tail _ (.tail _ (.tail _ (.tail _ (.tail _ (.head _)))))))) : List.Mem _ _))) g 2 [] [] ⟨3, k4, [], 1, gx, none, 0⟩ 5 c3 rfl rfl (by simp) (some (radr (b24, 0))) 1 [97] ⟨Own.rd, Nat.le_refl _, fun h => by cases h⟩ (ok3 _ (by decide)) (by show (0 : Int) < 2; decide) (by show (1 : Int) < 1000000; decide)) rfl ⟨rfl, rfl, rfl, fun t1 _ => ⟨rfl, ?_⟩⟩
  generalize hx1 : (Bx.put ⟨3, k4, [], 1, gx, none, 0⟩ c3 [97] 5 t1) = x1
  have x1l : x1.l.length = 1 ∧ x1.next = 2 ∧ x1.u = 3 ∧ x1.key = k4 ∧ x1.l.map Ly.ent = [(1, c3, [97])] := by rw [← hx1]; exact ⟨rfl, rfl, rfl, rfl, rfl⟩
  conv => whnf
  refine Cond.neI (fun h => absurd rfl h) (fun _ => ?_)
  conv => whnf
  intro b32
  conv => whnf
  refine conv_slc 32 1 Tryd.underlying34 Tryd.underlying5 ⟨_, _, rfl, rfl, ?_⟩
  conv => whnf
  refine CallOb.by' [] [1] (put_b _ (Own (some (radr (b32, 0))) 1 5 1 (u8s [98])) (Ent.all (by first | (simp; done) | (simp [M.props]; done) | (simp [M.props]; first | (left; rfl) | (right; left; rfl) | (right; right; left; rfl) | (right; right; right; left; rfl) | (right; right; right; right; left; rfl)) | exact (.head _ : List.Mem _ _) | exact (.tail _ (.head _) : List.Mem _ _) | exact (.tail _ (.tail _ (.head _)) : List.Mem _ _) | exact (.tail _ (.tail _ (.tail _ (.head _))) : List.Mem _ _) | exact (.tail _ (.tail _ (.tail _ (.tail _ (.head _)))) : List.Mem _ _) | exact (.tail _ (.tail _ (.tail _ (.tail _ (.tail _ (.head _))))) : List.Mem _ _) | exact (.tail _ (.tail _ (.tail _ (.tail _ (.tail _ (.tail _ (.head _)))))) : List.Mem _ _) | exact (.tail _ (.tail _ (.tail _ (.tail _ (.tail _ (.tail _ (.tail _ (.head _))))))) : List.Mem _ _) | exact (.tail _ (.tail _ (.tail _ (.tail _ (.tail _ (.tail _ (.tail _ (.tail _ (.head _)))))))) : List.Mem _ _))) g 2 [] [] x1 5 c3 rfl x1l.2.2.1 (by simp) (some (radr (b32, 0))) 1 [98] ⟨Own.rd, Nat.le_refl _, fun h => by cases h⟩ (ok3 _ (by decide)) (by rw [x1l.1]; decide) (by rw [x1l.2.1]; decide)) rfl ⟨rfl, rfl, rfl, fun t2 _ => ⟨rfl, ?_⟩⟩
  generalize hx2 : x1.put c3 [98] 5 t2 = x2
  have x2l : x2.l.length = 2 ∧ x2.u = 3 ∧ x2.key = k4 ∧ x2.l.map Ly.ent = [(1, c3, [97]), (2, c3, [98])] := by
    rw [← hx2]
    refine ⟨?_, x1l.2.2.1, x1l.2.2.2.1, ?_⟩
    · show (x1.l ++ [_]).length = 2
      rw [List.length_append, x1l.1]; rfl
    · show (x1.l ++ [_]).map Ly.ent = _
      rw [List.map_append, x1l.2.2.2.2]
      show [_] ++ [(x1.next, c3, [98])] = _
      rw [x1l.2.1]; rfl
  conv => whnf
  refine Cond.neI (fun h => absurd rfl h) (fun _ => ?_)
  conv => whnf
  refine CallOb.by' [] [0] (putFull_b _ g 2 [] [] x2 5 c3 rfl x2l.2.1 (by simp) none 0 [] (ok3 _ (by decide)) (by rw [x2l.1]; decide)) rfl ⟨rfl, rfl, rfl, fun _ _ => ⟨rfl, ?_⟩⟩
  conv => whnf
  refine Cond.neI (fun h => absurd rfl h) (fun _ => ?_)
  conv => whnf
  refine CallOb.pu (proof_c _ (hK.ent (Ent.all (by first | (simp; done) | (simp [M.props]; done) | (simp [M.props]; first | (left; rfl) | (right; left; rfl) | (right; right; left; rfl) | (right; right; right; left; rfl) | (right; right; right; right; left; rfl)) | exact (.head _ : List.Mem _ _) | exact (.tail _ (.head _) : List.Mem _ _) | exact (.tail _ (.tail _ (.head _)) : List.Mem _ _) | exact (.tail _ (.tail _ (.tail _ (.head _))) : List.Mem _ _) | exact (.tail _ (.tail _ (.tail _ (.tail _ (.head _)))) : List.Mem _ _) | exact (.tail _ (.tail _ (.tail _ (.tail _ (.tail _ (.head _))))) : List.Mem _ _) | exact (.tail _ (.tail _ (.tail _ (.tail _ (.tail _ (.tail _ (.head _)))))) : List.Mem _ _) | exact (.tail _ (.tail _ (.tail _ (.tail _ (.tail _ (.tail _ (.tail _ (.head _))))))) : List.Mem _ _) | exact (.tail _ (.tail _ (.tail _ (.tail _ (.tail _ (.tail _ (.tail _ (.tail _ (.head _)))))))) : List.Mem _ _)))) k4 rfl 6 3 0 (by decide) (by decide)) rfl ?_
  conv => whnf
  refine CallOb.by' [] [0] (fetch_b _ (hK.ent (Ent.all (by first | (simp; done) | (simp [M.props]; done) | (simp [M.props]; first | (left; rfl) | (right; left; rfl) | (right; right; left; rfl) | (right; right; right; left; rfl) | (right; right; right; right; left; rfl)) | exact (.head _ : List.Mem _ _) | exact (.tail _ (.head _) : List.Mem _ _) | exact (.tail _ (.tail _ (.head _)) : List.Mem _ _) | exact (.tail _ (.tail _ (.tail _ (.head _))) : List.Mem _ _) | exact (.tail _ (.tail _ (.tail _ (.tail _ (.head _)))) : List.Mem _ _) | exact (.tail _ (.tail _ (.tail _ (.tail _ (.tail _ (.head _))))) : List.Mem _ _) | exact (.tail _ (.tail _ (.tail _ (.tail _ (.tail _ (.tail _ (.head _)))))) : List.Mem _ _) | exact (.tail _ (.tail _ (.tail _ (.tail _ (.tail _ (.tail _ (.tail _ (.head _))))))) : List.Mem _ _) | exact (.tail _ (.tail _ (.tail _ (.tail _ (.tail _ (.tail _ (.tail _ (.tail _ (.head _)))))))) : List.Mem _ _)))) g 2 [] [] x2 6 3 0 x2l.2.1 (by simp) (by decide) (by decide) (proofD k4 6 3 0) (proofD_len _ _ _ _) (by rw [x2l.2.2.1])) rfl ⟨rfl, rfl, rfl, fun f1 hf1 => ⟨rfl, ?_⟩⟩
  have e1 := fx_ent hf1
  rw [x2l.2.2.2] at e1
  have e1 : f1.es.map En.ent = [(1, c3, [97]), (2, c3, [98])] := e1
  have x3e := left_ent x2 0
  rw [x2l.2.2.2] at x3e
  have x3e : (x2.left 0).l.map Ly.ent = [(1, c3, [97]), (2, c3, [98])] := x3e
  have x3u : (x2.left 0).u = 3 := x2l.2.1
  have x3k : (x2.left 0).key = k4 := x2l.2.2.1
  generalize x2.left 0 = x3 at x3e x3u x3k ⊢
  refine CallOb.pu (proof_c _ (hK.ent (Ent.all (by first | (simp; done) | (simp [M.props]; done) | (simp [M.props]; first | (left; rfl) | (right; left; rfl) | (right; right; left; rfl) | (right; right; right; left; rfl) | (right; right; right; right; left; rfl)) | exact (.head _ : List.Mem _ _) | exact (.tail _ (.head _) : List.Mem _ _) | exact (.tail _ (.tail _ (.head _)) : List.Mem _ _) | exact (.tail _ (.tail _ (.tail _ (.head _))) : List.Mem _ _) | exact (.tail _ (.tail _ (.tail _ (.tail _ (.head _)))) : List.Mem _ _) | exact (.tail _ (.tail _ (.tail _ (.tail _ (.tail _ (.head _))))) : List.Mem _ _) | exact (.tail _ (.tail _ (.tail _ (.tail _ (.tail _ (.tail _ (.head _)))))) : List.Mem _ _) | exact (.tail _ (.tail _ (.tail _ (.tail _ (.tail _ (.tail _ (.tail _ (.head _))))))) : List.Mem _ _) | exact (.tail _ (.tail _ (.tail _ (.tail _ (.tail _ (.tail _ (.tail _ (.tail _ (.head _)))))))) : List.Mem _ _)))) k4 rfl 7 3 1 (by decide) (by decide)) rfl ?_
  conv => whnf
  refine CallOb.by' [] [0] (fetch_b _ (hK.ent (Ent.all (by first | (simp; done) | (simp [M.props]; done) | (simp [M.props]; first | (left; rfl) | (right; left; rfl) | (right; right; left; rfl) | (right; right; right; left; rfl) | (right; right; right; right; left; rfl)) | exact (.head _ : List.Mem _ _) | exact (.tail _ (.head _) : List.Mem _ _) | exact (.tail _ (.tail _ (.head _)) : List.Mem _ _) | exact (.tail _ (.tail _ (.tail _ (.head _))) : List.Mem _ _) | exact (.tail _ (.tail _ (.tail _ (.tail _ (.head _)))) : List.Mem _ _) | exact (.tail _ (.tail _ (.tail _ (.tail _ (.tail _ (.head _))))) : List.Mem _ _) | exact (.tail _ (.tail _ (.tail _ (.tail _ (.tail _ (.tail _ (.head _)))))) : List.Mem _ _) | exact (.tail _ (.tail _ (.tail _ (.tail _ (.tail _ (.tail _ (.tail _ (.head _))))))) : List.Mem _ _) | exact (.tail _ (.tail _ (.tail _ (.tail _ (.tail _ (.tail _ (.tail _ (.tail _ (.head _)))))))) : List.Mem _ _)))) g 2 [] [] x3 7 3 1 x3u (by simp) (by decide) (by decide) (proofD k4 7 3 1) (proofD_len _ _ _ _) (by rw [x3k])) rfl ⟨rfl, rfl, rfl, fun f2 hf2 => ⟨rfl, ?_⟩⟩
  have e2 := fx_ent hf2
  rw [x3e] at e2
  have e2 : f2.es.map En.ent = [(2, c3, [98])] := e2
  have x4u : (x3.left 1).u = 3 := x3u
  have x4k : (x3.left 1).key = k4 := x3k
  generalize x3.left 1 = x4 at x4u x4k ⊢
  conv => whnf
  refine CallOb.by' [] [0] (fetchKey_b _ (hK.ent (Ent.all (by first | (simp; done) | (simp [M.props]; done) | (simp [M.props]; first | (left; rfl) | (right; left; rfl) | (right; right; left; rfl) | (right; right; right; left; rfl) | (right; right; right; right; left; rfl)) | exact (.head _ : List.Mem _ _) | exact (.tail _ (.head _) : List.Mem _ _) | exact (.tail _ (.tail _ (.head _)) : List.Mem _ _) | exact (.tail _ (.tail _ (.tail _ (.head _))) : List.Mem _ _) | exact (.tail _ (.tail _ (.tail _ (.tail _ (.head _)))) : List.Mem _ _) | exact (.tail _ (.tail _ (.tail _ (.tail _ (.tail _ (.head _))))) : List.Mem _ _) | exact (.tail _ (.tail _ (.tail _ (.tail _ (.tail _ (.tail _ (.head _)))))) : List.Mem _ _) | exact (.tail _ (.tail _ (.tail _ (.tail _ (.tail _ (.tail _ (.tail _ (.head _))))))) : List.Mem _ _) | exact (.tail _ (.tail _ (.tail _ (.tail _ (.tail _ (.tail _ (.tail _ (.tail _ (.head _)))))))) : List.Mem _ _)))) g 2 [] [] x4 7 3 1 x4u (by simp) (by decide) (by decide) (1 :: List.replicate 15 0) rfl (by rw [x4k]; exact tag_ne)) rfl ⟨rfl, rfl, rfl, fun _ _ => ⟨rfl, ?_⟩⟩
  obtain ⟨es1, ao1, co1⟩ := f1
  obtain ⟨es2, ao2, co2⟩ := f2
  dsimp only at e1 e2 hf1 hf2 ⊢
  obtain ⟨m0, m1, rfl, h0, h1⟩ := two_of e1
  obtain ⟨m2, rfl, h2⟩ := one_of e2
  obtain ⟨a0, c0, rfl⟩ := En.of h0
  obtain ⟨a1, c1, rfl⟩ := En.of h1
  obtain ⟨a2, c2, rfl⟩ := En.of h2
  conv => whnf
  refine Cond.eqI (fun _ => ?_) (fun h => absurd rfl h)
  conv => whnf
  refine Cond.eqI (fun _ => ?_) (fun h => absurd rfl h)
  conv => whnf
  refine ⟨by show (0 : Int) ≤ 1 ∧ (1 : Int) < ((2 : Nat) : Int); decide, PtrOb.rd (A := Own ao1 co1 49 13 (rowE [⟨1, c3, [97], a0, c0⟩, ⟨2, c3, [98], a1, c1⟩])) (by simp) Own.rd (by show 0 < 26; decide) fun q hq => ?_⟩
  have hr : Rd (Own ao1 co1 49 13 (rowE [⟨1, c3, [97], a0, c0⟩, ⟨2, c3, [98], a1, c1⟩])) (some (radr q)) (rowE [⟨1, c3, [97], a0, c0⟩, ⟨2, c3, [98], a1, c1⟩]) := by rw [← hq]; exact Own.rd
  conv => whnf
  refine ld (A := Own ao1 co1 49 13 (rowE [⟨1, c3, [97], a0, c0⟩, ⟨2, c3, [98], a1, c1⟩])) 13 (.int .i64 2) rfl (by simp) hr rfl rfl rfl trivial ?_
  refine Cond.eqI (fun _ => ?_) (fun h => absurd rfl h)
  conv => whnf
  refine Cond.eqI (fun _ => ?_) (fun h => absurd rfl h)
  conv => whnf
  refine Cond.eqI (fun _ => ?_) (fun h => absurd rfl h)
  conv => whnf
  refine ⟨by show (0 : Int) ≤ 0 ∧ (0 : Int) < ((1 : Nat) : Int); decide, PtrOb.rd (A := Own ao2 co2 49 13 (rowE [⟨2, c3, [98], a2, c2⟩])) (by simp) Own.rd (by show 0 < 13; decide) fun q' hq' => ?_⟩
  have hr' : Rd (Own ao2 co2 49 13 (rowE [⟨2, c3, [98], a2, c2⟩])) (some (radr q')) (rowE [⟨2, c3, [98], a2, c2⟩]) := by rw [← hq']; exact Own.rd
  conv => whnf
  refine ld (A := Own ao2 co2 49 13 (rowE [⟨2, c3, [98], a2, c2⟩])) 12 (.rs a2 1 c2) rfl (by simp) hr' rfl rfl rfl trivial ?_
  conv => whnf
  refine conv_str (l := [98]) (k := 1) (x := .c (.rs a2 1 c2)) Tryd.underlying34 Tryd.underlying5 Tryd.underlying9 (Src.rs (A := owes [⟨2, c3, [98], a2, c2⟩]) (by simp) (Rd.all (A := oweb ⟨2, c3, [98], a2, c2⟩) (by simp) Own.rd)) rfl (fun s h => by cases h) ?_
  conv => whnf
  refine Cond.str (a := [98]) (b := [98]) (fun _ => ?_) (fun h => absurd rfl h)
  conv => whnf
  exact Ret.mk' () [] [7] trivial rfl (by repeat' (first | exact trivial | rfl | apply And.intro)) (by repeat' (first | exact trivial | rfl | apply And.intro)) ⟨rfl, rfl⟩
end Go.Proofs.YtiimeklgjoclpaaDoor
