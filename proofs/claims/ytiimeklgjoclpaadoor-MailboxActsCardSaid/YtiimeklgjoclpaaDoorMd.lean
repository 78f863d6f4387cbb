/- Who asks for what lies in a box. -/
import Derived.Test.YtiimeklgjoclpaaDoorMc
namespace Go.Proofs.YtiimeklgjoclpaaDoor
open Go.Sx
set_option maxRecDepth 100000
set_option pp.deepTerms false
set_option pp.maxSteps 300
set_option linter.unusedSimpArgs false
set_option linter.unusedVariables false

theorem Draw.either {P : Program} {tt : TT} {N : Nat} {ops : List Oper} {env : Env} {B : Names} {H : List Chunk} {F : List HProp} {f : Env → M → Prop} (hm : P.follows .mixedOrders = true) (ok : tt.ok P) (t : Tr) (z : Nat)
    (hB : (Region.noSelect ops.toArray && greedyT ops.toArray z (isQ tt) t (Array.replicate ops.toArray.size false) && t.len == ops.toArray.size && sealedB ops.toArray z) = true)
    (h : execT P tt N ops z H F t env ⟨B, H, F⟩ f) : Draw P tt N ops env ⟨B, H, F⟩ f :=
  .fork hm ok t z H F hB (fun k => k) (Sub.whole h)
theorem tells_ack {A : HProp} {c : Nat} {ack : Int} (hE : Ent A (blk c (.cells #[.int .i64 ack] 3))) : Tells A 30 c fun y => decide (y.seq ≤ ack) := by
  intro A' e y hy
  have hk8 := many_ok hy
  refine Con.of' tt_ok Tryd.func30 rfl (by decide) [.agg y.sg, .c (.rp c 0)] [] [] rfl rfl trivial ⟨⟨trivial, trivial, trivial, trivial, hk8 _, trivial, trivial, trivial⟩, trivial, trivial⟩ rfl ?_
  conv => whnf
  intro b2
  conv => whnf
  refine ld (A := A') (p := (c, 0)) (xs := [.int .i64 ack]) 0 (.int .i64 ack) rfl (by simp) ((rd_list (l := [.int .i64 ack])).ent (e.trans hE)) rfl rfl rfl trivial ?_
  conv => whnf
  exact Ret.mk' () [] [0] trivial rfl (by repeat' (first | exact trivial | rfl | apply And.intro)) (by repeat' (first | exact trivial | rfl | apply And.intro)) ⟨rfl, rfl⟩
theorem fetchKey_c (A : HProp) (hK : Gl A) (g : Nat) (room : Int) (pre post : List Bx) (x : Bx) (now who ack : Int) (hx : x.u = who) (hpre : ∀ y ∈ pre, y.u ≠ who) (hnow : now ≥ 0 ∧ now ≤ 1099511627776) (hack : 0 ≤ ack ∧ ack ≤ 9223372036854775807)
    (p : List UInt8) (hp : p.length = 16) (hne : proofD x.key now who ack ≠ p) :
    Con Tryd.prog 11 [.c (.rp g 0), .c (.int .i64 now), .c (.int .i64 who), .c (.int .i64 ack), .agg [.many 16 (u8s p)]] [] [BsF g room pre x post] A (fun _ : Unit => True) (fun _ => .tup [.c (.rs none 0 0), .c (.int .i64 15)]) (fun _ => []) (fun _ => [BsF g room pre x post]) := by
  refine Con.box (Runs.of Tryd.func11 rfl (by decide)) ?_
  intro m hk
  have hxk := bk_at hk
  have hk32 := many_ok hxk.key
  have hk16 := many_ok hp
  have hpl := proofD_len x.key now who ack
  refine Con.of' tt_ok Tryd.func11 rfl (by decide) [.c (.ptr 1000 0), .c (.int .i64 now), .c (.int .i64 who), .c (.int .i64 ack), .agg [.many 16 (u8s p)]] [(1000, g), (1001, x.g)] [(1000, (bscel g m room).2), (1001, (bcel x).2)] rfl rfl ⟨(by repeat' (first | exact trivial | rfl | apply And.intro)), ⟨trivial, hk32 _, trivial, trivial, trivial⟩, trivial⟩ ⟨trivial, trivial, trivial, trivial, ⟨hk16 _, trivial⟩, trivial⟩ rfl ?_
  conv => whnf
  intro b8
  conv => whnf
  intro b9
  conv => whnf
  refine CallOb.by' [1000] [] (goodB_c _ g m room) rfl ⟨rfl, rfl, rfl, fun _ _ => ⟨rfl, ?_⟩⟩
  conv => whnf
  refine CallOb.pu (clock_c _ now) rfl ?_
  conv => whnf
  refine Cond.not (Cond.mk (fun _ => ?_) (fun h => by rw [decide_eq_true hnow.1, decide_eq_true hnow.2] at h; cases h))
  conv => whnf
  refine Cond.dec (fun h => by exfalso; omega) (fun _ => ?_)
  conv => whnf
  refine lk_map (l := ment (pre ++ x :: post) 0) (c := (pre ++ x :: post).length) (g := m) Tryd.underlying66 Tryd.underlying3 ptr_zero (by simp) (.c (.ptr 1001 0)) (found hx hpre).symm trivial ?_
  conv => whnf
  refine lk_map (l := ment (pre ++ x :: post) 0) (c := (pre ++ x :: post).length) (g := m) Tryd.underlying66 Tryd.underlying3 ptr_zero (by simp) (.c (.ptr 1001 0)) (found hx hpre).symm trivial ?_
  conv => whnf
  refine Draw.either (by kernel_rfl) tt_ok (Tr.of [0, 1, 2, 3, 4, 5, 6] (.two 7 (.one 8 (.one 9 .nil)) 8 (.one 7 (.one 9 .nil)))) 9 (by kernel_rfl) ?_
  conv => whnf
  refine ⟨?_, ?_⟩
  · conv => whnf
    refine CallOb.pu (proof_c _ (hK.ent (Ent.all (by first | (simp; done) | (simp [M.props]; done) | (simp [M.props]; first | (left; rfl) | (right; left; rfl) | (right; right; left; rfl) | (right; right; right; left; rfl) | (right; right; right; right; left; rfl)) | exact (.head _ : List.Mem _ _) | exact (.tail _ (.head _) : List.Mem _ _) | exact (.tail _ (.tail _ (.head _)) : List.Mem _ _) | exact (.tail _ (.tail _ (.tail _ (.head _))) : List.Mem _ _) | exact (.tail _ (.tail _ (.tail _ (.tail _ (.head _)))) : List.Mem _ _) | exact (.tail _ (.tail _ (.tail _ (.tail _ (.tail _ (.head _))))) : List.Mem _ _) | exact (.tail _ (.tail _ (.tail _ (.tail _ (.tail _ (.tail _ (.head _)))))) : List.Mem _ _) | exact (.tail _ (.tail _ (.tail _ (.tail _ (.tail _ (.tail _ (.tail _ (.head _))))))) : List.Mem _ _) | exact (.tail _ (.tail _ (.tail _ (.tail _ (.tail _ (.tail _ (.tail _ (.tail _ (.head _)))))))) : List.Mem _ _)))) x.key hxk.key now who ack (by omega) hack.2) rfl ?_
    conv => whnf
    refine Sub.whole ?_
    conv => whnf
    intro b13
    conv => whnf
    refine Sub.parts [1000, 9, 8, 1001] [0, 0, 0, 0, 0] ⟨rfl, rfl⟩ ?_
    conv => whnf
    refine Draw.quiet (by kernel_rfl) tt_ok (List.range 4) (by kernel_rfl) ?_
    conv => whnf
    refine CallOb.pu (equal_c _ (blk b13 (.cells (u8s (proofD x.key now who ack) ++ []).toArray 45)) (blk b9 (.cells (u8s p ++ []).toArray 45)) (Ent.all (by first | (simp; done) | (simp [M.props]; done) | (simp [M.props]; first | (left; rfl) | (right; left; rfl) | (right; right; left; rfl) | (right; right; right; left; rfl) | (right; right; right; right; left; rfl)) | exact (.head _ : List.Mem _ _) | exact (.tail _ (.head _) : List.Mem _ _) | exact (.tail _ (.tail _ (.head _)) : List.Mem _ _) | exact (.tail _ (.tail _ (.tail _ (.head _))) : List.Mem _ _) | exact (.tail _ (.tail _ (.tail _ (.tail _ (.head _)))) : List.Mem _ _) | exact (.tail _ (.tail _ (.tail _ (.tail _ (.tail _ (.head _))))) : List.Mem _ _) | exact (.tail _ (.tail _ (.tail _ (.tail _ (.tail _ (.tail _ (.head _)))))) : List.Mem _ _) | exact (.tail _ (.tail _ (.tail _ (.tail _ (.tail _ (.tail _ (.tail _ (.head _))))))) : List.Mem _ _) | exact (.tail _ (.tail _ (.tail _ (.tail _ (.tail _ (.tail _ (.tail _ (.tail _ (.head _)))))))) : List.Mem _ _))) (Ent.all (by first | (simp; done) | (simp [M.props]; done) | (simp [M.props]; first | (left; rfl) | (right; left; rfl) | (right; right; left; rfl) | (right; right; right; left; rfl) | (right; right; right; right; left; rfl)) | exact (.head _ : List.Mem _ _) | exact (.tail _ (.head _) : List.Mem _ _) | exact (.tail _ (.tail _ (.head _)) : List.Mem _ _) | exact (.tail _ (.tail _ (.tail _ (.head _))) : List.Mem _ _) | exact (.tail _ (.tail _ (.tail _ (.tail _ (.head _)))) : List.Mem _ _) | exact (.tail _ (.tail _ (.tail _ (.tail _ (.tail _ (.head _))))) : List.Mem _ _) | exact (.tail _ (.tail _ (.tail _ (.tail _ (.tail _ (.tail _ (.head _)))))) : List.Mem _ _) | exact (.tail _ (.tail _ (.tail _ (.tail _ (.tail _ (.tail _ (.tail _ (.head _))))))) : List.Mem _ _) | exact (.tail _ (.tail _ (.tail _ (.tail _ (.tail _ (.tail _ (.tail _ (.tail _ (.head _)))))))) : List.Mem _ _))) (some (radr (b13, 0))) 16 (proofD x.key now who ack) ⟨rd_many, by rw [hpl]; exact Nat.le_refl _, fun h => by cases h⟩
      (some (radr (b9, 0))) 16 p ⟨rd_many, by omega, fun h => by cases h⟩ (by rw [hpl]; decide)) (by rw [hpl, hp]; rfl) ?_
    conv => whnf
    refine Sub.whole ?_
    conv => whnf
    refine Cond.not (Cond.dec (fun h => absurd h hne) (fun _ => ?_))
    conv => whnf
    exact Ret.mk' (m, ()) [1000, 1001] [0, 0, 0, 0, 0] ⟨hk, trivial⟩ rfl (by repeat' (first | exact trivial | rfl | apply And.intro)) ⟨(by repeat' (first | exact trivial | rfl | apply And.intro)), ⟨hk32 _, trivial, trivial, trivial⟩, trivial⟩ ⟨rfl, rfl⟩
  · conv => whnf
    intro b13
    conv => whnf
    refine Sub.parts [1000, 9, 8, 1001] [0, 0, 0, 0, 0] ⟨rfl, rfl⟩ ?_
    conv => whnf
    refine CallOb.pu (proof_c _ (hK.ent (Ent.all (by first | (simp; done) | (simp [M.props]; done) | (simp [M.props]; first | (left; rfl) | (right; left; rfl) | (right; right; left; rfl) | (right; right; right; left; rfl) | (right; right; right; right; left; rfl)) | exact (.head _ : List.Mem _ _) | exact (.tail _ (.head _) : List.Mem _ _) | exact (.tail _ (.tail _ (.head _)) : List.Mem _ _) | exact (.tail _ (.tail _ (.tail _ (.head _))) : List.Mem _ _) | exact (.tail _ (.tail _ (.tail _ (.tail _ (.head _)))) : List.Mem _ _) | exact (.tail _ (.tail _ (.tail _ (.tail _ (.tail _ (.head _))))) : List.Mem _ _) | exact (.tail _ (.tail _ (.tail _ (.tail _ (.tail _ (.tail _ (.head _)))))) : List.Mem _ _) | exact (.tail _ (.tail _ (.tail _ (.tail _ (.tail _ (.tail _ (.tail _ (.head _))))))) : List.Mem _ _) | exact (.tail _ (.tail _ (.tail _ (.tail _ (.tail _ (.tail _ (.tail _ (.tail _ (.head _)))))))) : List.Mem _ _)))) x.key hxk.key now who ack (by omega) hack.2) rfl ?_
    conv => whnf
    refine Sub.parts [1000, 9, 8, 1001] [0, 0, 0, 0, 0] ⟨rfl, rfl⟩ ?_
    conv => whnf
    refine Draw.quiet (by kernel_rfl) tt_ok (List.range 4) (by kernel_rfl) ?_
    conv => whnf
    refine CallOb.pu (equal_c _ (blk b13 (.cells (u8s (proofD x.key now who ack) ++ []).toArray 45)) (blk b9 (.cells (u8s p ++ []).toArray 45)) (Ent.all (by first | (simp; done) | (simp [M.props]; done) | (simp [M.props]; first | (left; rfl) | (right; left; rfl) | (right; right; left; rfl) | (right; right; right; left; rfl) | (right; right; right; right; left; rfl)) | exact (.head _ : List.Mem _ _) | exact (.tail _ (.head _) : List.Mem _ _) | exact (.tail _ (.tail _ (.head _)) : List.Mem _ _) | exact (.tail _ (.tail _ (.tail _ (.head _))) : List.Mem _ _) | exact (.tail _ (.tail _ (.tail _ (.tail _ (.head _)))) : List.Mem _ _) | exact (.tail _ (.tail _ (.tail _ (.tail _ (.tail _ (.head _))))) : List.Mem _ _) | exact (.tail _ (.tail _ (.tail _ (.tail _ (.tail _ (.tail _ (.head _)))))) : List.Mem _ _) | exact (.tail _ (.tail _ (.tail _ (.tail _ (.tail _ (.tail _ (.tail _ (.head _))))))) : List.Mem _ _) | exact (.tail _ (.tail _ (.tail _ (.tail _ (.tail _ (.tail _ (.tail _ (.tail _ (.head _)))))))) : List.Mem _ _))) (Ent.all (by first | (simp; done) | (simp [M.props]; done) | (simp [M.props]; first | (left; rfl) | (right; left; rfl) | (right; right; left; rfl) | (right; right; right; left; rfl) | (right; right; right; right; left; rfl)) | exact (.head _ : List.Mem _ _) | exact (.tail _ (.head _) : List.Mem _ _) | exact (.tail _ (.tail _ (.head _)) : List.Mem _ _) | exact (.tail _ (.tail _ (.tail _ (.head _))) : List.Mem _ _) | exact (.tail _ (.tail _ (.tail _ (.tail _ (.head _)))) : List.Mem _ _) | exact (.tail _ (.tail _ (.tail _ (.tail _ (.tail _ (.head _))))) : List.Mem _ _) | exact (.tail _ (.tail _ (.tail _ (.tail _ (.tail _ (.tail _ (.head _)))))) : List.Mem _ _) | exact (.tail _ (.tail _ (.tail _ (.tail _ (.tail _ (.tail _ (.tail _ (.head _))))))) : List.Mem _ _) | exact (.tail _ (.tail _ (.tail _ (.tail _ (.tail _ (.tail _ (.tail _ (.tail _ (.head _)))))))) : List.Mem _ _))) (some (radr (b13, 0))) 16 (proofD x.key now who ack) ⟨rd_many, by rw [hpl]; exact Nat.le_refl _, fun h => by cases h⟩
      (some (radr (b9, 0))) 16 p ⟨rd_many, by omega, fun h => by cases h⟩ (by rw [hpl]; decide)) (by rw [hpl, hp]; rfl) ?_
    conv => whnf
    refine Sub.whole ?_
    conv => whnf
    refine Cond.not (Cond.dec (fun h => absurd h hne) (fun _ => ?_))
    conv => whnf
    exact Ret.mk' (m, ()) [1000, 1001] [0, 0, 0, 0, 0] ⟨hk, trivial⟩ rfl (by repeat' (first | exact trivial | rfl | apply And.intro)) ⟨(by repeat' (first | exact trivial | rfl | apply And.intro)), ⟨hk32 _, trivial, trivial, trivial⟩, trivial⟩ ⟨rfl, rfl⟩
/-- An entry that is told. -/
structure En where
  seq : Int
  c : Cmd
  b : List UInt8
  a : Option Addr
  cap : Nat
abbrev En.sg (y : En) : List Seg := [.one (.int .i64 y.seq), .one (.int .i64 y.c.k), .one (.int .i64 y.c.n), .one (.int .i64 y.c.d), .many 8 (u8s y.c.id), .one (.rs y.a y.b.length y.cap)]
def En.cs (y : En) : List Value := dens [] y.sg
theorem En.okL {y : En} (h : y.c.id.length = 8) (B : Names) : Sx.okL B y.sg := ⟨trivial, trivial, trivial, trivial, many_ok h _, trivial, trivial⟩
theorem En.len {y : En} (h : y.c.id.length = 8) : y.cs.length = 13 := segLen_dens (okL_spec (En.okL h []))
theorem En.one {y : En} (h : y.c.id.length = 8) : ∀ v ∈ y.cs, v.oneCell' = true := dens_one_cell (okL_spec (En.okL h []))
def rowE (l : List En) : List Value := (l.map En.cs).flatten
structure En.ok (y : En) : Prop where
  id : y.c.id.length = 8
  cap : y.b.length ≤ y.cap
  nil : y.a = none → y.b = []
theorem rowE_len {l : List En} (h : ∀ y ∈ l, y.ok) : (rowE l).length = l.length * 13 := by
  have := flatten_len (css := l.map En.cs) (n := 13) (fun c hc => by simp at hc; obtain ⟨y, hy, rfl⟩ := hc; exact En.len (h y hy).id)
  simpa [rowE] using this
theorem rowE_snoc (l : List En) (y : En) : rowE l ++ y.cs = rowE (l ++ [y]) := by simp [rowE]
abbrev oweb (y : En) : HProp := Own y.a y.cap 5 1 (u8s y.b)
def owes (l : List En) : HProp := all (l.map oweb)
def Ly.ent (y : Ly) : Int × Cmd × List UInt8 := (y.seq, y.c, y.b)
def En.ent (y : En) : Int × Cmd × List UInt8 := (y.seq, y.c, y.b)
structure FX where
  es : List En
  ao : Option Addr
  co : Nat
structure FX.ok (t : FX) (l : List Ly) : Prop where
  es : t.es.map En.ent = l.map Ly.ent
  ok : ∀ y ∈ t.es, y.ok
  cap : t.es.length ≤ t.co
  nil : t.ao = none → t.es = []
theorem Wk.turn {env env' : Env} {B : Names} {H : List Chunk} {F F' : List HProp} {m' : M} (i : ∀ g, seps F g → seps F' g) (h : Wk env ⟨B, H, F'⟩ env' m') : Wk env ⟨B, H, F⟩ env' m' := by
  refine ⟨fun w km s k => h.h w km ?_ k⟩
  obtain ⟨g, k, dj, hg, hk, h1, h2⟩ := seps_append.1 s
  exact seps_append.2 ⟨g, k, dj, hg, hk, h1, i k h2⟩
theorem owes_snoc {l : List En} {y : En} {a : HProp} {r : List HProp} {h : Hp} (s : seps (a :: oweb y :: owes l :: r) h) : seps (a :: owes (l ++ [y]) :: r) h := by
  have s1 := seps_perm (List.perm_middle (l₁ := [a, oweb y])) s
  have s2 : seps (l.map oweb ++ ([a, oweb y] ++ r)) h := seps_all.1 s1
  have s3 : seps ((l ++ [y]).map oweb ++ (a :: r)) h := by
    rw [List.map_append, List.append_assoc]
    exact seps_perm (List.Perm.append_left _ (.swap _ _ _)) s2
  exact seps_perm (List.Perm.swap _ _ _) (seps_all.2 s3)
theorem owbs_filter (q : Ly → Bool) : ∀ (l : List Ly) {r : List HProp} {h : Hp}, seps (l.map owb ++ r) h → seps ((l.filter q).map owb ++ r) h
  | [], _, _, s => s
  | y :: l, r, h, s => by
    obtain ⟨g, k, dj, hg, hk, h1, h2⟩ := s
    have ih := owbs_filter q l h2
    rw [List.filter_cons]
    split
    · exact ⟨g, k, dj, hg, hk, h1, ih⟩
    · exact seps_mono hk ih
theorem owbs_less {q : Ly → Bool} {l : List Ly} {l₁ r : List HProp} {h : Hp} (s : seps (l₁ ++ owbs l :: r) h) : seps (l₁ ++ owbs (l.filter q) :: r) h :=
  seps_perm List.perm_middle.symm (seps_all.2 (owbs_filter q l (seps_all.1 (seps_perm List.perm_middle s))))
abbrev Bx.left (x : Bx) (ack : Int) : Bx := { x with l := x.l.filter fun y => !decide (y.seq ≤ ack) }
theorem Wk.all0 {env env' : Env} {B : Names} {H : List Chunk} {F : List HProp} {m' : M} (h : Wk env ⟨B, H, all [] :: F⟩ env' m') : Wk env ⟨B, H, F⟩ env' m' :=
  ⟨fun w km s k => h.h w km (sat_perm List.perm_middle.symm (seps_all.2 s)) k⟩
theorem fetch_c (A : HProp) (hK : Gl A) (g : Nat) (room : Int) (pre post : List Bx) (x : Bx) (now who ack : Int) (hx : x.u = who) (hpre : ∀ y ∈ pre, y.u ≠ who) (hnow : now ≥ 0 ∧ now ≤ 1099511627776) (hack : 0 ≤ ack ∧ ack ≤ 9223372036854775807)
    (p : List UInt8) (hp : p.length = 16) (heq : proofD x.key now who ack = p) :
    Con Tryd.prog 11 [.c (.rp g 0), .c (.int .i64 now), .c (.int .i64 who), .c (.int .i64 ack), .agg [.many 16 (u8s p)]] [] [BsF g room pre x post] A (fun t : FX => t.ok ((x.l.filter fun y => !decide (y.seq ≤ ack)).take 8)) (fun t => .tup [.c (.rs t.ao t.es.length t.co), .c (.int .i64 0)]) (fun _ => [])
      (fun t => [BsF g room pre (x.left ack) post, Own t.ao t.co 49 13 (rowE t.es), owes t.es]) := by
  refine Con.box (Y := Nat) (Runs.of Tryd.func11 rfl (by decide)) ?_
  intro m hk
  have hxk := bk_at hk
  have hk32 := many_ok hxk.key
  have hk16 := many_ok hp
  have hpl := proofD_len x.key now who ack
  refine Con.of' tt_ok Tryd.func11 rfl (by decide) [.c (.ptr 1000 0), .c (.int .i64 now), .c (.int .i64 who), .c (.int .i64 ack), .agg [.many 16 (u8s p)]] [(1000, g), (1001, x.g)] [(1000, (bscel g m room).2), (1001, (bcel x).2)] rfl rfl ⟨(by repeat' (first | exact trivial | rfl | apply And.intro)), ⟨trivial, hk32 _, trivial, trivial, trivial⟩, trivial⟩ ⟨trivial, trivial, trivial, trivial, ⟨hk16 _, trivial⟩, trivial⟩ rfl ?_
  conv => whnf
  intro b8
  conv => whnf
  intro b9
  conv => whnf
  refine CallOb.by' [1000] [] (goodB_c _ g m room) rfl ⟨rfl, rfl, rfl, fun _ _ => ⟨rfl, ?_⟩⟩
  conv => whnf
  refine CallOb.pu (clock_c _ now) rfl ?_
  conv => whnf
  refine Cond.not (Cond.mk (fun _ => ?_) (fun h => by rw [decide_eq_true hnow.1, decide_eq_true hnow.2] at h; cases h))
  conv => whnf
  refine Cond.dec (fun h => by exfalso; omega) (fun _ => ?_)
  conv => whnf
  refine lk_map (l := ment (pre ++ x :: post) 0) (c := (pre ++ x :: post).length) (g := m) Tryd.underlying66 Tryd.underlying3 ptr_zero (by simp) (.c (.ptr 1001 0)) (found hx hpre).symm trivial ?_
  conv => whnf
  refine lk_map (l := ment (pre ++ x :: post) 0) (c := (pre ++ x :: post).length) (g := m) Tryd.underlying66 Tryd.underlying3 ptr_zero (by simp) (.c (.ptr 1001 0)) (found hx hpre).symm trivial ?_
  conv => whnf
  refine Draw.either (by kernel_rfl) tt_ok (Tr.of [0, 1, 2, 3, 4, 5, 6] (.two 7 (.one 8 (.one 9 .nil)) 8 (.one 7 (.one 9 .nil)))) 9 (by kernel_rfl) ?_
  conv => whnf
  refine ⟨?_, ?_⟩
  · conv => whnf
    refine CallOb.pu (proof_c _ (hK.ent (Ent.all (by first | (simp; done) | (simp [M.props]; done) | (simp [M.props]; first | (left; rfl) | (right; left; rfl) | (right; right; left; rfl) | (right; right; right; left; rfl) | (right; right; right; right; left; rfl)) | exact (.head _ : List.Mem _ _) | exact (.tail _ (.head _) : List.Mem _ _) | exact (.tail _ (.tail _ (.head _)) : List.Mem _ _) | exact (.tail _ (.tail _ (.tail _ (.head _))) : List.Mem _ _) | exact (.tail _ (.tail _ (.tail _ (.tail _ (.head _)))) : List.Mem _ _) | exact (.tail _ (.tail _ (.tail _ (.tail _ (.tail _ (.head _))))) : List.Mem _ _) | exact (.tail _ (.tail _ (.tail _ (.tail _ (.tail _ (.tail _ (.head _)))))) : List.Mem _ _) | exact (.tail _ (.tail _ (.tail _ (.tail _ (.tail _ (.tail _ (.tail _ (.head _))))))) : List.Mem _ _) | exact (.tail _ (.tail _ (.tail _ (.tail _ (.tail _ (.tail _ (.tail _ (.tail _ (.head _)))))))) : List.Mem _ _)))) x.key hxk.key now who ack (by omega) hack.2) rfl ?_
    conv => whnf
    refine Sub.whole ?_
    conv => whnf
    intro b13
    conv => whnf
    refine Sub.parts [1000, 9, 8, 1001] [0, 0, 0, 0, 0] ⟨rfl, rfl⟩ ?_
    conv => whnf
    refine Draw.quiet (by kernel_rfl) tt_ok (List.range 4) (by kernel_rfl) ?_
    conv => whnf
    refine CallOb.pu (equal_c _ (blk b13 (.cells (u8s (proofD x.key now who ack) ++ []).toArray 45)) (blk b9 (.cells (u8s p ++ []).toArray 45)) (Ent.all (by first | (simp; done) | (simp [M.props]; done) | (simp [M.props]; first | (left; rfl) | (right; left; rfl) | (right; right; left; rfl) | (right; right; right; left; rfl) | (right; right; right; right; left; rfl)) | exact (.head _ : List.Mem _ _) | exact (.tail _ (.head _) : List.Mem _ _) | exact (.tail _ (.tail _ (.head _)) : List.Mem _ _) | exact (.tail _ (.tail _ (.tail _ (.head _))) : List.Mem _ _) | exact (.tail _ (.tail _ (.tail _ (.tail _ (.head _)))) : List.Mem _ _) | exact (.tail _ (.tail _ (.tail _ (.tail _ (.tail _ (.head _))))) : List.Mem _ _) | exact (.tail _ (.tail _ (.tail _ (.tail _ (.tail _ (.tail _ (.head _)))))) : List.Mem _ _) | exact (.tail _ (.tail _ (.tail _ (.tail _ (.tail _ (.tail _ (.tail _ (.head _))))))) : List.Mem _ _) | exact (.tail _ (.tail _ (.tail _ (.tail _ (.tail _ (.tail _ (.tail _ (.tail _ (.head _)))))))) : List.Mem _ _))) (Ent.all (by first | (simp; done) | (simp [M.props]; done) | (simp [M.props]; first | (left; rfl) | (right; left; rfl) | (right; right; left; rfl) | (right; right; right; left; rfl) | (right; right; right; right; left; rfl)) | exact (.head _ : List.Mem _ _) | exact (.tail _ (.head _) : List.Mem _ _) | exact (.tail _ (.tail _ (.head _)) : List.Mem _ _) | exact (.tail _ (.tail _ (.tail _ (.head _))) : List.Mem _ _) | exact (.tail _ (.tail _ (.tail _ (.tail _ (.head _)))) : List.Mem _ _) | exact (.tail _ (.tail _ (.tail _ (.tail _ (.tail _ (.head _))))) : List.Mem _ _) | exact (.tail _ (.tail _ (.tail _ (.tail _ (.tail _ (.tail _ (.head _)))))) : List.Mem _ _) | exact (.tail _ (.tail _ (.tail _ (.tail _ (.tail _ (.tail _ (.tail _ (.head _))))))) : List.Mem _ _) | exact (.tail _ (.tail _ (.tail _ (.tail _ (.tail _ (.tail _ (.tail _ (.tail _ (.head _)))))))) : List.Mem _ _))) (some (radr (b13, 0))) 16 (proofD x.key now who ack) ⟨rd_many, by rw [hpl]; exact Nat.le_refl _, fun h => by cases h⟩
      (some (radr (b9, 0))) 16 p ⟨rd_many, by omega, fun h => by cases h⟩ (by rw [hpl]; decide)) (by rw [hpl, hp]; rfl) ?_
    conv => whnf
    refine Sub.whole ?_
    conv => whnf
    refine Cond.not (Cond.dec (fun _ => ?_) (fun h => absurd heq h))
    conv => whnf
    refine CallOb.by' [] [1] (deleteL_c _ 30 b8 _ (tells_ack (c := b8) (ack := ack) (Ent.all (by first | (simp; done) | (simp [M.props]; done) | (simp [M.props]; first | (left; rfl) | (right; left; rfl) | (right; right; left; rfl) | (right; right; right; left; rfl) | (right; right; right; right; left; rfl)) | exact (.head _ : List.Mem _ _) | exact (.tail _ (.head _) : List.Mem _ _) | exact (.tail _ (.tail _ (.head _)) : List.Mem _ _) | exact (.tail _ (.tail _ (.tail _ (.head _))) : List.Mem _ _) | exact (.tail _ (.tail _ (.tail _ (.tail _ (.head _)))) : List.Mem _ _) | exact (.tail _ (.tail _ (.tail _ (.tail _ (.tail _ (.head _))))) : List.Mem _ _) | exact (.tail _ (.tail _ (.tail _ (.tail _ (.tail _ (.tail _ (.head _)))))) : List.Mem _ _) | exact (.tail _ (.tail _ (.tail _ (.tail _ (.tail _ (.tail _ (.tail _ (.head _))))))) : List.Mem _ _) | exact (.tail _ (.tail _ (.tail _ (.tail _ (.tail _ (.tail _ (.tail _ (.tail _ (.head _)))))))) : List.Mem _ _)))) x.a x.cap x.l hxk.l.A (by have := hxk.len; omega) hxk.cap) rfl ⟨rfl, rfl, rfl, fun _ _ => ⟨rfl, ?_⟩⟩
    generalize hl' : (x.l.filter fun y => !decide (y.seq ≤ ack)) = l' at *
    conv => whnf
    refine Draw.quiet (by kernel_rfl) tt_ok (List.range 13) (by kernel_rfl) ?_
    have hls : l'.length ≤ x.l.length := by rw [← hl']; exact List.length_filter_le _ _
    have hcap := hxk.cap
    have hmem : ∀ y ∈ l', y ∈ x.l := fun y hy => by rw [← hl'] at hy; exact (List.mem_filter.1 hy).1
    have hlo : okA l' := fun y hy => hxk.l.A y (hmem y hy)
    have hlen := hxk.len
    conv => whnf
    refine ⟨by omega, ?_⟩
    conv => whnf
    refine LoopOb.mk' (σ := Nat × FX) (fun q => [(14, .c (.rs q.2.ao q.2.es.length q.2.co)), (74, .c (.rs x.a (min l'.length 8) x.cap)), (75, .c (.int .i64 (min l'.length 8 : Nat))), (76, .c (.int .i64 q.1))])
      (fun q => ⟨[(1000, g), (1001, x.g)], [(1000, (bscel g m room).2), (1001, (bcel { x with l := l' }).2)], [Own q.2.ao q.2.co 49 13 (rowE q.2.es), owes q.2.es, Own x.a x.cap 79 14 (rowL l'), Mp m (ment (pre ++ x :: post) 0) (pre ++ x :: post).length, owbs x.l, all ((pre ++ post).map BxP), A]⟩)
      (fun q => q.1 ≤ min l'.length 8 ∧ q.2.ok (l'.take q.1)) (fun q => min l'.length 8 - q.1) (0, ⟨[], none, 0⟩) ⟨Nat.zero_le _, (⟨rfl, fun y hy => (by simp at hy), Nat.le_refl _, fun _ => rfl⟩ : FX.ok ⟨[], none, 0⟩ [])⟩ ?_ ?_
    · refine Wk.own0 49 13 (Wk.all0 ?_)
      refine Wk.mk' [1000, 1001] [1, 0, 0, 0, 0, 0, 0] ⟨⟨rfl, trivial⟩, ⟨?_, trivial⟩, ⟨?_, trivial⟩, ⟨rfl, trivial⟩, trivial⟩ ⟨(by repeat' (first | exact trivial | rfl | apply And.intro)), ⟨trivial, hk32 _, trivial, trivial, trivial⟩, trivial⟩ ⟨rfl, rfl⟩
      · show Value.slice (cutA x.a (x.cap : Int).toNat 0 14) ((min (l'.length : Int) 8).toNat - 0) ((x.cap : Int).toNat - 0) = Value.slice x.a (min l'.length 8) x.cap
        rw [cutA0]; congr 1; omega
      · show Value.int .i64 (((min (l'.length : Int) 8).toNat - 0 : Nat) : Int) = Value.int .i64 ((min l'.length 8 : Nat) : Int)
        congr 1; omega
    rintro ⟨i, ⟨es, ao, co⟩⟩ ⟨hi, hq⟩
    dsimp only at hi hq ⊢
    have hlt := hq.es
    conv => whnf
    refine Cond.dec (fun h => ?_) (fun h => ?_)
    · have hi' : i < l'.length := by omega
      have hr : Rd (Own x.a x.cap 79 14 (rowL l')) x.a (rowL l') := Own.rd
      conv => whnf
      refine ⟨by omega, PtrOb.rd (A := Own x.a x.cap 79 14 (rowL l')) (by simp) hr (by rw [rowL_len hlo]; omega) fun q hq' => ?_⟩
      have hr2 : Rd (Own x.a x.cap 79 14 (rowL l')) (some (radr q)) (rowL l') := by rw [← hq']; exact hr
      conv => whnf
      refine ldly i (A := Own x.a x.cap 79 14 (rowL l')) (by simp) hr2 hlo hi' rfl rfl rfl rfl ?_
      have hym := List.getElem_mem hi'
      have htk : l'.take (i + 1) = l'.take i ++ [l'[i]] := List.take_succ_eq_append_getElem hi'
      generalize l'[i] = y at hym htk ⊢
      have hyB := hxk.l y (hmem y hym)
      conv => whnf
      intro b16
      conv => whnf
      refine Draw.greedy (by kernel_rfl) tt_ok (List.range 15) [(16, y.sg, 79)] [A] (by kernel_rfl) (fun k ch h => k ch (by simp at h; simp [h])) (Sub.parts [16] [6] ⟨rfl, rfl⟩ ?_)
      conv => whnf
      refine CallOb.by' [] [] (clone_c _ (owb y) ((Ent.all (p := owbs x.l) (by first | (simp; done) | (simp [M.props]; done) | (simp [M.props]; first | (left; rfl) | (right; left; rfl) | (right; right; left; rfl) | (right; right; right; left; rfl) | (right; right; right; right; left; rfl)) | exact (.head _ : List.Mem _ _) | exact (.tail _ (.head _) : List.Mem _ _) | exact (.tail _ (.tail _ (.head _)) : List.Mem _ _) | exact (.tail _ (.tail _ (.tail _ (.head _))) : List.Mem _ _) | exact (.tail _ (.tail _ (.tail _ (.tail _ (.head _)))) : List.Mem _ _) | exact (.tail _ (.tail _ (.tail _ (.tail _ (.tail _ (.head _))))) : List.Mem _ _) | exact (.tail _ (.tail _ (.tail _ (.tail _ (.tail _ (.tail _ (.head _)))))) : List.Mem _ _) | exact (.tail _ (.tail _ (.tail _ (.tail _ (.tail _ (.tail _ (.tail _ (.head _))))))) : List.Mem _ _) | exact (.tail _ (.tail _ (.tail _ (.tail _ (.tail _ (.tail _ (.tail _ (.tail _ (.head _)))))))) : List.Mem _ _))).trans (Ent.all (List.mem_map.2 ⟨y, hmem y hym, rfl⟩))) y.a y.cap y.b ⟨Own.rd, hyB.2.2.1, hyB.2.2.2⟩ (by have := hyB.2.1; omega)) rfl ⟨rfl, rfl, rfl, fun t ht => ⟨rfl, ?_⟩⟩
      obtain ⟨ab, capb⟩ := t
      dsimp only at ht ⊢
      conv => whnf
      refine Sub.parts [16] [7] ⟨rfl, rfl⟩ ?_
      conv => whnf
      intro b92
      conv => whnf
      refine Sub.parts [16] [7] ⟨rfl, rfl⟩ ?_
      conv => whnf
      have hno : (⟨y.seq, y.c, y.b, ab, capb⟩ : En).ok := ⟨hyB.1, ht.1, ht.2⟩
      have hle : es.length ≤ 8 := by
        have := congrArg List.length hlt
        rw [List.length_map, List.length_map, List.length_take] at this
        dsimp only at this; omega
      refine append_own (a := ao) (n := es.length) (cap := co) (xs := rowE es) (k := 1) (ys := En.cs ⟨y.seq, y.c, y.b, ab, capb⟩) (src := .c (.slc 92 0 1 1))
        (F' := [Own ab capb 5 1 (u8s y.b), owes es, Own x.a x.cap 79 14 (rowL l'), Mp m (ment (pre ++ x :: post) 0) (pre ++ x :: post).length, owbs x.l, all ((pre ++ post).map BxP), A])
        (.swap _ _ _) (by rw [rowE_len hq.ok]) (by rw [En.len hno.id]; rfl) (by exact Src.slc (Exists.intro [] (List.append_nil _).symm)) (En.one hno.id) (by show (es.length + 1 + (es.length + 1) / 4 + 192) * 64 ≤ _; omega) (by omega) (by decide) 41 (.inr rfl) ?_
      intro a2 c2 hc2 hn2
      rw [rowE_snoc]
      conv => whnf
      refine Sub.parts [16] [7] ⟨rfl, rfl⟩ ?_
      conv => whnf
      refine Ar.i64 (by omega) ?_
      conv => whnf
      have hq2 : FX.ok ⟨es ++ [⟨y.seq, y.c, y.b, ab, capb⟩], a2, c2⟩ (l'.take (i + 1)) := by
        refine ⟨?_, fun z hz => ?_, ?_, fun h => absurd (hn2 h) (by omega)⟩
        · show (es ++ [_]).map En.ent = _
          rw [htk, List.map_append, List.map_append, ← hlt]; rfl
        · rcases List.mem_append.1 hz with hz | hz
          · exact hq.ok z hz
          · rw [List.mem_singleton.1 hz]; exact hno
        · show (es ++ [_]).length ≤ c2
          rw [List.length_append]; exact hc2
      refine ⟨(i + 1, ⟨es ++ [⟨y.seq, y.c, y.b, ab, capb⟩], a2, c2⟩), ⟨by dsimp only; omega, hq2⟩, by dsimp only; omega, ?_⟩
      refine Wk.turn (fun _ s => owes_snoc (y := ⟨y.seq, y.c, y.b, ab, capb⟩) s) ?_
      refine Wk.mk' [1000, 1001] [0, 0, 0, 0, 0, 0, 0] ⟨⟨?_, trivial⟩, ⟨rfl, trivial⟩, ⟨rfl, trivial⟩, ⟨rfl, trivial⟩, trivial⟩ ⟨(by repeat' (first | exact trivial | rfl | apply And.intro)), ⟨trivial, hk32 _, trivial, trivial, trivial⟩, trivial⟩ ⟨rfl, rfl⟩
      show Value.slice a2 (es.length + 1) c2 = Value.slice a2 (es ++ [_]).length c2
      rw [List.length_append]; rfl
    have hi' : i = min l'.length 8 := by omega
    have hq3 : FX.ok ⟨es, ao, co⟩ (l'.take 8) := by
      have : l'.take i = l'.take 8 := by rw [hi', List.take_eq_take_iff]; omega
      rw [← this]; exact hq
    conv => whnf
    subst hl'
    refine Ret.turn (fun _ s => owbs_less (q := fun y => !decide (y.seq ≤ ack)) (l₁ := [Own ao co 49 13 (rowE es), owes es, Own x.a x.cap 79 14 (rowL (x.l.filter fun y => !decide (y.seq ≤ ack))), Mp m (ment (pre ++ x :: post) 0) (pre ++ x :: post).length]) s) ?_
    have em : ∀ i, ment (pre ++ x :: post) i = ment (pre ++ (x.left ack) :: post) i := fun i => by rw [ment_append, ment_append]; rfl
    have el : (pre ++ x :: post).length = (pre ++ (x.left ack) :: post).length := by simp
    rw [em, el]
    have hxk' : (x.left ack).ok := ⟨hxk.key, fun y hy => hxk.l y (List.mem_filter.1 hy).1, Nat.le_trans (List.length_filter_le _ _) hxk.len, Nat.le_trans (List.length_filter_le _ _) hxk.cap, hxk.next⟩
    have hk' : Bk (pre ++ (x.left ack) :: post) room := by
      refine ⟨fun y hy => ?_, hk.2⟩
      simp only [List.mem_append, List.mem_cons] at hy
      rcases hy with hy | rfl | hy
      · exact hk.1 y (by simp [hy])
      · exact hxk'
      · exact hk.1 y (by simp [hy])
    exact Ret.mk' (m, ⟨es, ao, co⟩) [1000, 1001] [3, 2, 2, 2, 0, 0, 0] ⟨hk', hq3⟩ rfl (by repeat' (first | exact trivial | rfl | apply And.intro)) ⟨(by repeat' (first | exact trivial | rfl | apply And.intro)), ⟨hk32 _, trivial, trivial, trivial⟩, trivial⟩ ⟨rfl, rfl⟩
  · conv => whnf
    intro b13
    conv => whnf
    refine Sub.parts [1000, 9, 8, 1001] [0, 0, 0, 0, 0] ⟨rfl, rfl⟩ ?_
    conv => whnf
    refine CallOb.pu (proof_c _ (hK.ent (Ent.all (by first | (simp; done) | (simp [M.props]; done) | (simp [M.props]; first | (left; rfl) | (right; left; rfl) | (right; right; left; rfl) | (right; right; right; left; rfl) | (right; right; right; right; left; rfl)) | exact (.head _ : List.Mem _ _) | exact (.tail _ (.head _) : List.Mem _ _) | exact (.tail _ (.tail _ (.head _)) : List.Mem _ _) | exact (.tail _ (.tail _ (.tail _ (.head _))) : List.Mem _ _) | exact (.tail _ (.tail _ (.tail _ (.tail _ (.head _)))) : List.Mem _ _) | exact (.tail _ (.tail _ (.tail _ (.tail _ (.tail _ (.head _))))) : List.Mem _ _) | exact (.tail _ (.tail _ (.tail _ (.tail _ (.tail _ (.tail _ (.head _)))))) : List.Mem _ _) | exact (.tail _ (.tail _ (.tail _ (.tail _ (.tail _ (.tail _ (.tail _ (.head _))))))) : List.Mem _ _) | exact (.tail _ (.tail _ (.tail _ (.tail _ (.tail _ (.tail _ (.tail _ (.tail _ (.head _)))))))) : List.Mem _ _)))) x.key hxk.key now who ack (by omega) hack.2) rfl ?_
    conv => whnf
    refine Sub.parts [1000, 9, 8, 1001] [0, 0, 0, 0, 0] ⟨rfl, rfl⟩ ?_
    conv => whnf
    refine Draw.quiet (by kernel_rfl) tt_ok (List.range 4) (by kernel_rfl) ?_
    conv => whnf
    refine CallOb.pu (equal_c _ (blk b13 (.cells (u8s (proofD x.key now who ack) ++ []).toArray 45)) (blk b9 (.cells (u8s p ++ []).toArray 45)) (Ent.all (by first | (simp; done) | (simp [M.props]; done) | (simp [M.props]; first | (left; rfl) | (right; left; rfl) | (right; right; left; rfl) | (right; right; right; left; rfl) | (right; right; right; right; left; rfl)) | exact (.head _ : List.Mem _ _) | exact (.tail _ (.head _) : List.Mem _ _) | exact (.tail _ (.tail _ (.head _)) : List.Mem _ _) | exact (.tail _ (.tail _ (.tail _ (.head _))) : List.Mem _ _) | exact (.tail _ (.tail _ (.tail _ (.tail _ (.head _)))) : List.Mem _ _) | exact (.tail _ (.tail _ (.tail _ (.tail _ (.tail _ (.head _))))) : List.Mem _ _) | exact (.tail _ (.tail _ (.tail _ (.tail _ (.tail _ (.tail _ (.head _)))))) : List.Mem _ _) | exact (.tail _ (.tail _ (.tail _ (.tail _ (.tail _ (.tail _ (.tail _ (.head _))))))) : List.Mem _ _) | exact (.tail _ (.tail _ (.tail _ (.tail _ (.tail _ (.tail _ (.tail _ (.tail _ (.head _)))))))) : List.Mem _ _))) (Ent.all (by first | (simp; done) | (simp [M.props]; done) | (simp [M.props]; first | (left; rfl) | (right; left; rfl) | (right; right; left; rfl) | (right; right; right; left; rfl) | (right; right; right; right; left; rfl)) | exact (.head _ : List.Mem _ _) | exact (.tail _ (.head _) : List.Mem _ _) | exact (.tail _ (.tail _ (.head _)) : List.Mem _ _) | exact (.tail _ (.tail _ (.tail _ (.head _))) : List.Mem _ _) | exact (.tail _ (.tail _ (.tail _ (.tail _ (.head _)))) : List.Mem _ _) | exact (.tail _ (.tail _ (.tail _ (.tail _ (.tail _ (.head _))))) : List.Mem _ _) | exact (.tail _ (.tail _ (.tail _ (.tail _ (.tail _ (.tail _ (.head _)))))) : List.Mem _ _) | exact (.tail _ (.tail _ (.tail _ (.tail _ (.tail _ (.tail _ (.tail _ (.head _))))))) : List.Mem _ _) | exact (.tail _ (.tail _ (.tail _ (.tail _ (.tail _ (.tail _ (.tail _ (.tail _ (.head _)))))))) : List.Mem _ _))) (some (radr (b13, 0))) 16 (proofD x.key now who ack) ⟨rd_many, by rw [hpl]; exact Nat.le_refl _, fun h => by cases h⟩
      (some (radr (b9, 0))) 16 p ⟨rd_many, by omega, fun h => by cases h⟩ (by rw [hpl]; decide)) (by rw [hpl, hp]; rfl) ?_
    conv => whnf
    refine Sub.whole ?_
    conv => whnf
    refine Cond.not (Cond.dec (fun _ => ?_) (fun h => absurd heq h))
    conv => whnf
    refine CallOb.by' [] [1] (deleteL_c _ 30 b8 _ (tells_ack (c := b8) (ack := ack) (Ent.all (by first | (simp; done) | (simp [M.props]; done) | (simp [M.props]; first | (left; rfl) | (right; left; rfl) | (right; right; left; rfl) | (right; right; right; left; rfl) | (right; right; right; right; left; rfl)) | exact (.head _ : List.Mem _ _) | exact (.tail _ (.head _) : List.Mem _ _) | exact (.tail _ (.tail _ (.head _)) : List.Mem _ _) | exact (.tail _ (.tail _ (.tail _ (.head _))) : List.Mem _ _) | exact (.tail _ (.tail _ (.tail _ (.tail _ (.head _)))) : List.Mem _ _) | exact (.tail _ (.tail _ (.tail _ (.tail _ (.tail _ (.head _))))) : List.Mem _ _) | exact (.tail _ (.tail _ (.tail _ (.tail _ (.tail _ (.tail _ (.head _)))))) : List.Mem _ _) | exact (.tail _ (.tail _ (.tail _ (.tail _ (.tail _ (.tail _ (.tail _ (.head _))))))) : List.Mem _ _) | exact (.tail _ (.tail _ (.tail _ (.tail _ (.tail _ (.tail _ (.tail _ (.tail _ (.head _)))))))) : List.Mem _ _)))) x.a x.cap x.l hxk.l.A (by have := hxk.len; omega) hxk.cap) rfl ⟨rfl, rfl, rfl, fun _ _ => ⟨rfl, ?_⟩⟩
    generalize hl' : (x.l.filter fun y => !decide (y.seq ≤ ack)) = l' at *
    conv => whnf
    refine Draw.quiet (by kernel_rfl) tt_ok (List.range 13) (by kernel_rfl) ?_
    have hls : l'.length ≤ x.l.length := by rw [← hl']; exact List.length_filter_le _ _
    have hcap := hxk.cap
    have hmem : ∀ y ∈ l', y ∈ x.l := fun y hy => by rw [← hl'] at hy; exact (List.mem_filter.1 hy).1
    have hlo : okA l' := fun y hy => hxk.l.A y (hmem y hy)
    have hlen := hxk.len
    conv => whnf
    refine ⟨by omega, ?_⟩
    conv => whnf
    refine LoopOb.mk' (σ := Nat × FX) (fun q => [(14, .c (.rs q.2.ao q.2.es.length q.2.co)), (74, .c (.rs x.a (min l'.length 8) x.cap)), (75, .c (.int .i64 (min l'.length 8 : Nat))), (76, .c (.int .i64 q.1))])
      (fun q => ⟨[(1000, g), (1001, x.g)], [(1000, (bscel g m room).2), (1001, (bcel { x with l := l' }).2)], [Own q.2.ao q.2.co 49 13 (rowE q.2.es), owes q.2.es, Own x.a x.cap 79 14 (rowL l'), Mp m (ment (pre ++ x :: post) 0) (pre ++ x :: post).length, owbs x.l, all ((pre ++ post).map BxP), A]⟩)
      (fun q => q.1 ≤ min l'.length 8 ∧ q.2.ok (l'.take q.1)) (fun q => min l'.length 8 - q.1) (0, ⟨[], none, 0⟩) ⟨Nat.zero_le _, (⟨rfl, fun y hy => (by simp at hy), Nat.le_refl _, fun _ => rfl⟩ : FX.ok ⟨[], none, 0⟩ [])⟩ ?_ ?_
    · refine Wk.own0 49 13 (Wk.all0 ?_)
      refine Wk.mk' [1000, 1001] [1, 0, 0, 0, 0, 0, 0] ⟨⟨rfl, trivial⟩, ⟨?_, trivial⟩, ⟨?_, trivial⟩, ⟨rfl, trivial⟩, trivial⟩ ⟨(by repeat' (first | exact trivial | rfl | apply And.intro)), ⟨trivial, hk32 _, trivial, trivial, trivial⟩, trivial⟩ ⟨rfl, rfl⟩
      · show Value.slice (cutA x.a (x.cap : Int).toNat 0 14) ((min (l'.length : Int) 8).toNat - 0) ((x.cap : Int).toNat - 0) = Value.slice x.a (min l'.length 8) x.cap
        rw [cutA0]; congr 1; omega
      · show Value.int .i64 (((min (l'.length : Int) 8).toNat - 0 : Nat) : Int) = Value.int .i64 ((min l'.length 8 : Nat) : Int)
        congr 1; omega
    rintro ⟨i, ⟨es, ao, co⟩⟩ ⟨hi, hq⟩
    dsimp only at hi hq ⊢
    have hlt := hq.es
    conv => whnf
    refine Cond.dec (fun h => ?_) (fun h => ?_)
    · have hi' : i < l'.length := by omega
      have hr : Rd (Own x.a x.cap 79 14 (rowL l')) x.a (rowL l') := Own.rd
      conv => whnf
      refine ⟨by omega, PtrOb.rd (A := Own x.a x.cap 79 14 (rowL l')) (by simp) hr (by rw [rowL_len hlo]; omega) fun q hq' => ?_⟩
      have hr2 : Rd (Own x.a x.cap 79 14 (rowL l')) (some (radr q)) (rowL l') := by rw [← hq']; exact hr
      conv => whnf
      refine ldly i (A := Own x.a x.cap 79 14 (rowL l')) (by simp) hr2 hlo hi' rfl rfl rfl rfl ?_
      have hym := List.getElem_mem hi'
      have htk : l'.take (i + 1) = l'.take i ++ [l'[i]] := List.take_succ_eq_append_getElem hi'
      generalize l'[i] = y at hym htk ⊢
      have hyB := hxk.l y (hmem y hym)
      conv => whnf
      intro b16
      conv => whnf
      refine Draw.greedy (by kernel_rfl) tt_ok (List.range 15) [(16, y.sg, 79)] [A] (by kernel_rfl) (fun k ch h => k ch (by simp at h; simp [h])) (Sub.parts [16] [6] ⟨rfl, rfl⟩ ?_)
      conv => whnf
      refine CallOb.by' [] [] (clone_c _ (owb y) ((Ent.all (p := owbs x.l) (by first | (simp; done) | (simp [M.props]; done) | (simp [M.props]; first | (left; rfl) | (right; left; rfl) | (right; right; left; rfl) | (right; right; right; left; rfl) | (right; right; right; right; left; rfl)) | exact (.head _ : List.Mem _ _) | exact (.tail _ (.head _) : List.Mem _ _) | exact (.tail _ (.tail _ (.head _)) : List.Mem _ _) | exact (.tail _ (.tail _ (.tail _ (.head _))) : List.Mem _ _) | exact (.tail _ (.tail _ (.tail _ (.tail _ (.head _)))) : List.Mem _ _) | exact (.tail _ (.tail _ (.tail _ (.tail _ (.tail _ (.head _))))) : List.Mem _ _) | exact (.tail _ (.tail _ (.tail _ (.tail _ (.tail _ (.tail _ (.head _)))))) : List.Mem _ _) | exact (.tail _ (.tail _ (.tail _ (.tail _ (.tail _ (.tail _ (.tail _ (.head _))))))) : List.Mem _ _) | exact (.tail _ (.tail _ (.tail _ (.tail _ (.tail _ (.tail _ (.tail _ (.tail _ (.head _)))))))) : List.Mem _ _))).trans (Ent.all (List.mem_map.2 ⟨y, hmem y hym, rfl⟩))) y.a y.cap y.b ⟨Own.rd, hyB.2.2.1, hyB.2.2.2⟩ (by have := hyB.2.1; omega)) rfl ⟨rfl, rfl, rfl, fun t ht => ⟨rfl, ?_⟩⟩
      obtain ⟨ab, capb⟩ := t
      dsimp only at ht ⊢
      conv => whnf
      refine Sub.parts [16] [7] ⟨rfl, rfl⟩ ?_
      conv => whnf
      intro b92
      conv => whnf
      refine Sub.parts [16] [7] ⟨rfl, rfl⟩ ?_
      conv => whnf
      have hno : (⟨y.seq, y.c, y.b, ab, capb⟩ : En).ok := ⟨hyB.1, ht.1, ht.2⟩
      have hle : es.length ≤ 8 := by
        have := congrArg List.length hlt
        rw [List.length_map, List.length_map, List.length_take] at this
        dsimp only at this; omega
      refine append_own (a := ao) (n := es.length) (cap := co) (xs := rowE es) (k := 1) (ys := En.cs ⟨y.seq, y.c, y.b, ab, capb⟩) (src := .c (.slc 92 0 1 1))
        (F' := [Own ab capb 5 1 (u8s y.b), owes es, Own x.a x.cap 79 14 (rowL l'), Mp m (ment (pre ++ x :: post) 0) (pre ++ x :: post).length, owbs x.l, all ((pre ++ post).map BxP), A])
        (.swap _ _ _) (by rw [rowE_len hq.ok]) (by rw [En.len hno.id]; rfl) (by exact Src.slc (Exists.intro [] (List.append_nil _).symm)) (En.one hno.id) (by show (es.length + 1 + (es.length + 1) / 4 + 192) * 64 ≤ _; omega) (by omega) (by decide) 41 (.inr rfl) ?_
      intro a2 c2 hc2 hn2
      rw [rowE_snoc]
      conv => whnf
      refine Sub.parts [16] [7] ⟨rfl, rfl⟩ ?_
      conv => whnf
      refine Ar.i64 (by omega) ?_
      conv => whnf
      have hq2 : FX.ok ⟨es ++ [⟨y.seq, y.c, y.b, ab, capb⟩], a2, c2⟩ (l'.take (i + 1)) := by
        refine ⟨?_, fun z hz => ?_, ?_, fun h => absurd (hn2 h) (by omega)⟩
        · show (es ++ [_]).map En.ent = _
          rw [htk, List.map_append, List.map_append, ← hlt]; rfl
        · rcases List.mem_append.1 hz with hz | hz
          · exact hq.ok z hz
          · rw [List.mem_singleton.1 hz]; exact hno
        · show (es ++ [_]).length ≤ c2
          rw [List.length_append]; exact hc2
      refine ⟨(i + 1, ⟨es ++ [⟨y.seq, y.c, y.b, ab, capb⟩], a2, c2⟩), ⟨by dsimp only; omega, hq2⟩, by dsimp only; omega, ?_⟩
      refine Wk.turn (fun _ s => owes_snoc (y := ⟨y.seq, y.c, y.b, ab, capb⟩) s) ?_
      refine Wk.mk' [1000, 1001] [0, 0, 0, 0, 0, 0, 0] ⟨⟨?_, trivial⟩, ⟨rfl, trivial⟩, ⟨rfl, trivial⟩, ⟨rfl, trivial⟩, trivial⟩ ⟨(by repeat' (first | exact trivial | rfl | apply And.intro)), ⟨trivial, hk32 _, trivial, trivial, trivial⟩, trivial⟩ ⟨rfl, rfl⟩
      show Value.slice a2 (es.length + 1) c2 = Value.slice a2 (es ++ [_]).length c2
      rw [List.length_append]; rfl
    have hi' : i = min l'.length 8 := by omega
    have hq3 : FX.ok ⟨es, ao, co⟩ (l'.take 8) := by
      have : l'.take i = l'.take 8 := by rw [hi', List.take_eq_take_iff]; omega
      rw [← this]; exact hq
    conv => whnf
    subst hl'
    refine Ret.turn (fun _ s => owbs_less (q := fun y => !decide (y.seq ≤ ack)) (l₁ := [Own ao co 49 13 (rowE es), owes es, Own x.a x.cap 79 14 (rowL (x.l.filter fun y => !decide (y.seq ≤ ack))), Mp m (ment (pre ++ x :: post) 0) (pre ++ x :: post).length]) s) ?_
    have em : ∀ i, ment (pre ++ x :: post) i = ment (pre ++ (x.left ack) :: post) i := fun i => by rw [ment_append, ment_append]; rfl
    have el : (pre ++ x :: post).length = (pre ++ (x.left ack) :: post).length := by simp
    rw [em, el]
    have hxk' : (x.left ack).ok := ⟨hxk.key, fun y hy => hxk.l y (List.mem_filter.1 hy).1, Nat.le_trans (List.length_filter_le _ _) hxk.len, Nat.le_trans (List.length_filter_le _ _) hxk.cap, hxk.next⟩
    have hk' : Bk (pre ++ (x.left ack) :: post) room := by
      refine ⟨fun y hy => ?_, hk.2⟩
      simp only [List.mem_append, List.mem_cons] at hy
      rcases hy with hy | rfl | hy
      · exact hk.1 y (by simp [hy])
      · exact hxk'
      · exact hk.1 y (by simp [hy])
    exact Ret.mk' (m, ⟨es, ao, co⟩) [1000, 1001] [3, 2, 2, 2, 0, 0, 0] ⟨hk', hq3⟩ rfl (by repeat' (first | exact trivial | rfl | apply And.intro)) ⟨(by repeat' (first | exact trivial | rfl | apply And.intro)), ⟨hk32 _, trivial, trivial, trivial⟩, trivial⟩ ⟨rfl, rfl⟩
end Go.Proofs.YtiimeklgjoclpaaDoor
