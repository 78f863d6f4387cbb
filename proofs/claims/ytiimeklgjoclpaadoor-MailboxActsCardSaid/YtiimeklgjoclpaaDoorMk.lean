/- What was put lies there, in order, under rising numbers, till it was fetched. -/
import Derived.Test.YtiimeklgjoclpaaDoorMj
namespace Go.Proofs.YtiimeklgjoclpaaDoor
open Go.Sx
open Go.RowKit (Below)
set_option maxRecDepth 100000
set_option pp.deepTerms false
set_option pp.maxSteps 300
set_option linter.unusedSimpArgs false
set_option linter.unusedVariables false

/-- Bytes under rising numbers. -/
def numb (n : Int) : List (List UInt8) → List (Int × Cmd × List UInt8)
  | [] => []
  | b :: r => (n, c3, b) :: numb (n + 1) r
def filt (ack : Int) (l : List (Int × Cmd × List UInt8)) : List (Int × Cmd × List UInt8) := l.filter fun e => !decide (e.1 ≤ ack)
theorem numb_len : ∀ (n : Int) (l : List (List UInt8)), (numb n l).length = l.length
  | _, [] => rfl
  | n, b :: r => by simp [numb, numb_len (n + 1) r]
theorem numb_snoc : ∀ (n : Int) (l : List (List UInt8)) (b : List UInt8), numb n (l ++ [b]) = numb n l ++ [(n + l.length, c3, b)]
  | n, [], b => by simp [numb]
  | n, c :: r, b => by
    simp only [List.cons_append, numb, numb_snoc (n + 1) r b, List.length_cons]
    congr 4; omega
theorem numb_get : ∀ (n : Int) (l : List (List UInt8)) (k : Nat) (h : k < l.length), (numb n l)[k]'(by rw [numb_len]; exact h) = (n + k, c3, l[k])
  | n, [], k, h => by simp at h
  | n, c :: r, 0, h => by simp [numb]
  | n, c :: r, k + 1, h => by
    simp only [numb, List.getElem_cons_succ]
    rw [numb_get (n + 1) r k (by simpa using h)]
    congr 1; push_cast; omega
theorem numb_skip {n ack : Int} (h : n ≤ ack) (b : List UInt8) (r : List (List UInt8)) : filt ack (numb n (b :: r)) = filt ack (numb (n + 1) r) := by
  simp [filt, numb, h]
theorem numb_all {ack : Int} : ∀ {n : Int} {l : List (List UInt8)}, ack < n ∨ l = [] → filt ack (numb n l) = numb n l
  | _, [], _ => rfl
  | n, b :: r, h => by
    have h : ack < n := by
      rcases h with h | h
      · exact h
      · cases h
    have ih := numb_all (n := n + 1) (l := r) (.inl (show ack < n + 1 by omega))
    have hn : decide (n ≤ ack) = false := decide_eq_false (by omega)
    show List.filter _ ((n, c3, b) :: numb (n + 1) r) = _
    rw [List.filter_cons, if_pos (by simp only [hn]; rfl)]
    exact congrArg _ ih
def strs (l : List (List UInt8)) : List Value := l.map fun b => .string (bs b)
theorem strs_len (l : List (List UInt8)) : (strs l).length = l.length := by simp [strs]
theorem rowE_row {l : List En} (h : ∀ y ∈ l, y.ok) {R : HProp} {a : Option Addr} (hr : Rd R a (rowE l)) : Row R a 13 (fun y c => c = En.cs y ∧ y.ok) l := by
  refine ⟨l.map En.cs, hr, by simp, fun c hc => ?_, fun i x c hx hc => ?_⟩
  · simp at hc; obtain ⟨y, hy, rfl⟩ := hc; exact En.len (h y hy).id
  · rw [List.getElem?_map, hx] at hc
    exact ⟨(Option.some.inj hc).symm, h x (List.mem_of_getElem? hx)⟩

structure Ks where
  i : Nat
  x : Bx
  ls : List (List UInt8)
  n : Int
  al : Option Addr
  cl : Nat
structure Ks.ok (s : Ks) (key : List UInt8) (len : Nat) : Prop where
  i : s.i ≤ len ∧ s.i ≤ 60
  u : s.x.u = 3
  key : s.x.key = key
  ent : s.x.l.map Ly.ent = numb s.n s.ls
  next : s.x.next = s.n + s.ls.length
  n : 1 ≤ s.n ∧ s.n + s.ls.length ≤ s.i + 1
  cap : s.ls.length ≤ s.cl
structure Kd where
  ls : List (List UInt8)
  n : Int
  al : Option Addr
  cl : Nat
theorem kept_c (W : World) (hK : Gl (old W)) (key : List UInt8) (hkey : key.length = 32) (a0 : Option Addr) (c0 : Nat) (l : List Ma) (hrow : Row (old W) a0 48 (MaE (old W)) l) :
    LawC Tryd.prog 3 [.agg [.many 32 (u8s key)], .c (.rs a0 l.length c0)] W := by
  have hk32 := many_ok hkey
  refine Con.of' tt_ok Tryd.func3 rfl (by decide) [.agg [.many 32 (u8s key)], .c (.rs a0 l.length c0)] [] [] rfl rfl trivial ⟨⟨hk32 _, trivial⟩, trivial, trivial⟩ rfl ?_
  conv => whnf
  intro b2
  conv => whnf
  refine CallOb.pu (alive_c _ (hK.ent (Ent.all (by first | (simp; done) | (simp [M.props]; done) | (simp [M.props]; first | (left; rfl) | (right; left; rfl) | (right; right; left; rfl) | (right; right; right; left; rfl) | (right; right; right; right; left; rfl)) | exact (.head _ : List.Mem _ _) | exact (.tail _ (.head _) : List.Mem _ _) | exact (.tail _ (.tail _ (.head _)) : List.Mem _ _) | exact (.tail _ (.tail _ (.tail _ (.head _))) : List.Mem _ _) | exact (.tail _ (.tail _ (.tail _ (.tail _ (.head _)))) : List.Mem _ _) | exact (.tail _ (.tail _ (.tail _ (.tail _ (.tail _ (.head _))))) : List.Mem _ _) | exact (.tail _ (.tail _ (.tail _ (.tail _ (.tail _ (.tail _ (.head _)))))) : List.Mem _ _) | exact (.tail _ (.tail _ (.tail _ (.tail _ (.tail _ (.tail _ (.tail _ (.head _))))))) : List.Mem _ _) | exact (.tail _ (.tail _ (.tail _ (.tail _ (.tail _ (.tail _ (.tail _ (.tail _ (.head _)))))))) : List.Mem _ _))))) rfl ?_
  conv => whnf
  refine CallOb.by' [] [] (newB_c _ 256 (by decide)) rfl ⟨rfl, rfl, rfl, fun g _ => ⟨rfl, ?_⟩⟩
  conv => whnf
  refine CallOb.by' [] [0] (open_c _ g 256 [] 3 (by decide) (by simp) key hkey) rfl ⟨rfl, rfl, rfl, fun gx _ => ⟨rfl, ?_⟩⟩
  conv => whnf
  refine Cond.neI (fun h => absurd rfl h) (fun _ => ?_)
  conv => whnf
  refine LoopOb.mk' (σ := Ks) (fun s => [(1, .c (.rs a0 l.length c0)), (2, .c (.ptr 2 0)), (5, .c (.rp g 0)), (6, .c (.rs s.al s.ls.length s.cl)), (7, .c (.int .i64 s.n)), (8, .c (.int .i64 s.i))])
    (fun s => ⟨[(2, b2)], [(2, [.many 32 (u8s key)], 23)], [Bs g 256 [s.x], OwnO s.al s.cl 9 1 (strs s.ls), old W]⟩) (fun s => s.ok key l.length) (fun s => l.length - s.i) ⟨0, ⟨3, key, [], 1, gx, none, 0⟩, [], 1, none, 0⟩
    ⟨⟨Nat.zero_le _, Nat.zero_le _⟩, rfl, rfl, rfl, rfl, (by show (1 : Int) ≤ 1 ∧ (1 : Int) + ((0 : Nat) : Int) ≤ ((0 : Nat) : Int) + 1; decide), Nat.le_refl _⟩ ?_ ?_
  · refine Wk.own0 9 1 ?_
    refine Wk.turn (F' := [OwnO none 0 9 1 [], Bs g 256 [⟨3, key, [], 1, gx, none, 0⟩], old W]) (fun _ s => seps_imp (fun g h => OwnO.of g h) s) ?_
    exact Wk.mk' [2] [1, 0, 0] (by repeat' (first | exact trivial | rfl | apply And.intro)) ⟨⟨trivial, hk32 _, trivial⟩, trivial⟩ ⟨rfl, rfl⟩
  rintro ⟨i, x, ls, n, al, cl⟩ ⟨hi, hu, hkx, hxe, hnx, hn, hcap⟩
  dsimp only at hi hu hkx hxe hnx hn hcap ⊢
  have hxl : x.l.length = ls.length := by
    have := congrArg List.length hxe
    rwa [List.length_map, numb_len] at this
  conv => whnf
  refine Cond.dec (fun h => ?_) (fun h => ?_)
  case refine_2 =>
    conv => whnf
    exact Ret.mk' () [] [2] trivial rfl (by repeat' (first | exact trivial | rfl | apply And.intro)) (by repeat' (first | exact trivial | rfl | apply And.intro)) ⟨rfl, rfl⟩
  conv => whnf
  refine Cond.dec (fun h2 => ?_) (fun h2 => ?_)
  case refine_2 =>
    conv => whnf
    exact Ret.mk' () [] [2] trivial rfl (by repeat' (first | exact trivial | rfl | apply And.intro)) (by repeat' (first | exact trivial | rfl | apply And.intro)) ⟨rfl, rfl⟩
  have hil : i < l.length := by omega
  conv => whnf
  refine ⟨by omega, row_ptr (A := old W) (by simp) (Ent.refl _) hrow (by omega) fun q hq => ?_⟩
  rw [hq] at hrow
  conv => whnf
  refine ldma i (A := old W) (by simp) (Ent.refl _) hrow hil rfl rfl rfl rfl fun ta tc hb hok => ?_
  generalize l[i] = y at hb hok ⊢
  conv => whnf
  intro b9
  conv => whnf
  refine ⟨by decide, ?_⟩
  refine Cond.eqI (fun h3 => ?_) (fun h3 => ?_)
  · conv => whnf
    refine Cond.dec (fun h4 => ?_) (fun h4 => ?_)
    · conv => whnf
      exact Ret.mk' () [] [2] trivial (by show Value.bool _ = Value.bool _; rw [decide_eq_true h4]) (by repeat' (first | exact trivial | rfl | apply And.intro)) (by repeat' (first | exact trivial | rfl | apply And.intro)) ⟨rfl, rfl⟩
    conv => whnf
    refine CallOb.by' [] [0] (put_b _ (old W) (Ent.all (by first | (simp; done) | (simp [M.props]; done) | (simp [M.props]; first | (left; rfl) | (right; left; rfl) | (right; right; left; rfl) | (right; right; right; left; rfl) | (right; right; right; right; left; rfl)) | exact (.head _ : List.Mem _ _) | exact (.tail _ (.head _) : List.Mem _ _) | exact (.tail _ (.tail _ (.head _)) : List.Mem _ _) | exact (.tail _ (.tail _ (.tail _ (.head _))) : List.Mem _ _) | exact (.tail _ (.tail _ (.tail _ (.tail _ (.head _)))) : List.Mem _ _) | exact (.tail _ (.tail _ (.tail _ (.tail _ (.tail _ (.head _))))) : List.Mem _ _) | exact (.tail _ (.tail _ (.tail _ (.tail _ (.tail _ (.tail _ (.head _)))))) : List.Mem _ _) | exact (.tail _ (.tail _ (.tail _ (.tail _ (.tail _ (.tail _ (.tail _ (.head _))))))) : List.Mem _ _) | exact (.tail _ (.tail _ (.tail _ (.tail _ (.tail _ (.tail _ (.tail _ (.tail _ (.head _)))))))) : List.Mem _ _))) g 256 [] [] x 5 c3 rfl hu (by simp) ta tc y.b hb (ok3 _ (by omega)) (by omega) (by omega)) rfl ⟨rfl, rfl, rfl, fun t1 _ => ⟨rfl, ?_⟩⟩
    have hxe' : (x.put c3 y.b 5 t1).l.map Ly.ent = numb n (ls ++ [y.b]) := by
      show (x.l ++ [_]).map Ly.ent = _
      rw [List.map_append, hxe, numb_snoc, ← hnx]; rfl
    have hxn' : (x.put c3 y.b 5 t1).next = n + (ls ++ [y.b]).length := by
      show x.next + 1 = _
      rw [List.length_append]; simp; omega
    have hu' : (x.put c3 y.b 5 t1).u = 3 := hu
    have hkx' : (x.put c3 y.b 5 t1).key = key := hkx
    generalize x.put c3 y.b 5 t1 = x' at hxe' hxn' hu' hkx' ⊢
    conv => whnf
    refine Cond.neI (fun h => absurd rfl h) (fun _ => ?_)
    conv => whnf
    refine conv_str (l := y.b) (k := y.b.length) (x := .c (.rs ta y.b.length tc)) Tryd.underlying34 Tryd.underlying5 Tryd.underlying9 (Src.rs (A := old W) (by simp) hb.1) rfl (fun s h => by cases h) ?_
    conv => whnf
    intro b63
    conv => whnf
    refine append_ownO (a := al) (n := ls.length) (cap := cl) (xs := strs ls) (k := 1) (ys := [.string (bs y.b)]) (src := .c (.slc 63 0 1 1)) (.swap _ _ _) (by rw [strs_len]; exact (Nat.mul_one _).symm) rfl (by exact Src.slc (Exists.intro [] rfl)) (by simp [Value.oneCell']) (by show (ls.length + 1 + (ls.length + 1) / 4 + 192) * 16 ≤ _; omega) (by omega) (by decide) 30 (.inr rfl) ?_
    intro a2 c2 hc2 hn2
    have es : strs ls ++ [.string (bs y.b)] = strs (ls ++ [y.b]) := by simp [strs]
    rw [es]
    conv => whnf
    refine Ar.i64 (by omega) ?_
    conv => whnf
    refine ⟨⟨i + 1, x', ls ++ [y.b], n, a2, c2⟩, ⟨⟨by dsimp only; omega, by dsimp only; omega⟩, hu', hkx', hxe', hxn', ⟨hn.1, by dsimp only; rw [List.length_append]; simp; omega⟩, by dsimp only; rw [List.length_append]; exact hc2⟩, by dsimp only; omega, Wk.mk' [2] [1, 0, 0] ⟨⟨rfl, trivial⟩, ⟨rfl, trivial⟩, ⟨rfl, trivial⟩, ⟨?_, trivial⟩, ⟨rfl, trivial⟩, ⟨rfl, trivial⟩, trivial⟩ ⟨⟨trivial, hk32 _, trivial⟩, trivial⟩ ⟨rfl, rfl⟩⟩
    show Value.slice a2 (ls.length + 1) c2 = Value.slice a2 (ls ++ [y.b]).length c2
    rw [List.length_append]; rfl
  · conv => whnf
    refine Cond.dec (fun h4 => ?_) (fun h4 => ?_)
    · conv => whnf
      refine Ar.i64 (by omega) ?_
      conv => whnf
      exact ⟨⟨i + 1, x, ls, n, al, cl⟩, ⟨⟨by dsimp only; omega, by dsimp only; omega⟩, hu, hkx, hxe, hnx, ⟨hn.1, by dsimp only; omega⟩, hcap⟩, by dsimp only; omega, Wk.mk' [2] [0, 0, 0] (by repeat' (first | exact trivial | rfl | apply And.intro)) ⟨⟨trivial, hk32 _, trivial⟩, trivial⟩ ⟨rfl, rfl⟩⟩
    conv => whnf
    refine Draw.greedy (by kernel_rfl) tt_ok (List.range 13) [(9, y.sg ta tc, 36), (2, [.many 32 (u8s key)], 23)] [old W] (by kernel_rfl) (fun k ch h => k ch (by simpa using h)) (Sub.parts [9, 2] [2] ⟨rfl, rfl⟩ ?_)
    conv => whnf
    refine CallOb.pu (proof_c _ (hK.ent (Ent.all (by first | (simp; done) | (simp [M.props]; done) | (simp [M.props]; first | (left; rfl) | (right; left; rfl) | (right; right; left; rfl) | (right; right; right; left; rfl) | (right; right; right; right; left; rfl)) | exact (.head _ : List.Mem _ _) | exact (.tail _ (.head _) : List.Mem _ _) | exact (.tail _ (.tail _ (.head _)) : List.Mem _ _) | exact (.tail _ (.tail _ (.tail _ (.head _))) : List.Mem _ _) | exact (.tail _ (.tail _ (.tail _ (.tail _ (.head _)))) : List.Mem _ _) | exact (.tail _ (.tail _ (.tail _ (.tail _ (.tail _ (.head _))))) : List.Mem _ _) | exact (.tail _ (.tail _ (.tail _ (.tail _ (.tail _ (.tail _ (.head _)))))) : List.Mem _ _) | exact (.tail _ (.tail _ (.tail _ (.tail _ (.tail _ (.tail _ (.tail _ (.head _))))))) : List.Mem _ _) | exact (.tail _ (.tail _ (.tail _ (.tail _ (.tail _ (.tail _ (.tail _ (.tail _ (.head _)))))))) : List.Mem _ _)))) key hkey 9 3 y.ack (by decide) hok.ack.2) rfl ?_
    conv => whnf
    refine Sub.parts [9, 2] [2] ⟨rfl, rfl⟩ ?_
    conv => whnf
    refine CallOb.by' [] [0] (fetch_b _ (hK.ent (Ent.all (by first | (simp; done) | (simp [M.props]; done) | (simp [M.props]; first | (left; rfl) | (right; left; rfl) | (right; right; left; rfl) | (right; right; right; left; rfl) | (right; right; right; right; left; rfl)) | exact (.head _ : List.Mem _ _) | exact (.tail _ (.head _) : List.Mem _ _) | exact (.tail _ (.tail _ (.head _)) : List.Mem _ _) | exact (.tail _ (.tail _ (.tail _ (.head _))) : List.Mem _ _) | exact (.tail _ (.tail _ (.tail _ (.tail _ (.head _)))) : List.Mem _ _) | exact (.tail _ (.tail _ (.tail _ (.tail _ (.tail _ (.head _))))) : List.Mem _ _) | exact (.tail _ (.tail _ (.tail _ (.tail _ (.tail _ (.tail _ (.head _)))))) : List.Mem _ _) | exact (.tail _ (.tail _ (.tail _ (.tail _ (.tail _ (.tail _ (.tail _ (.head _))))))) : List.Mem _ _) | exact (.tail _ (.tail _ (.tail _ (.tail _ (.tail _ (.tail _ (.tail _ (.tail _ (.head _)))))))) : List.Mem _ _)))) g 256 [] [] x 9 3 y.ack hu (by simp) (by decide) ⟨by omega, hok.ack.2⟩ (proofD key 9 3 y.ack) (proofD_len _ _ _ _) (by rw [hkx])) rfl ⟨rfl, rfl, rfl, fun f1 hf1 => ⟨rfl, ?_⟩⟩
    have hes := fx_ent hf1
    have x2e := left_ent x y.ack
    rw [hxe] at x2e hes
    have hes : f1.es.map En.ent = (filt y.ack (numb n ls)).take 8 := hes
    have x2e : (x.left y.ack).l.map Ly.ent = filt y.ack (numb n ls) := x2e
    rw [← x2e] at hes
    have hesok := hf1.ok
    have x2u : (x.left y.ack).u = 3 := hu
    have x2k : (x.left y.ack).key = key := hkx
    have x2n : (x.left y.ack).next = n + ls.length := hnx
    generalize x.left y.ack = x2 at x2e x2u x2k x2n hes ⊢
    obtain ⟨es, ao, co⟩ := f1
    dsimp only at hes hesok ⊢
    conv => whnf
    refine Sub.parts [9, 2] [4] ⟨rfl, rfl⟩ ?_
    conv => whnf
    refine LoopOb.mk' (σ := Kd) (fun s => [(1, .c (.rs a0 l.length c0)), (2, .c (.ptr 2 0)), (5, .c (.rp g 0)), (6, .c (.rs s.al s.ls.length s.cl)), (7, .c (.int .i64 s.n)), (8, .c (.int .i64 i)), (9, .c (.ptr 9 0)), (10, .c (.rs ao es.length co)), (11, .c (.int .i64 0))])
      (fun s => ⟨[(9, b9), (2, b2)], [(9, y.sg ta tc, 36), (2, [.many 32 (u8s key)], 23)], [Bs g 256 [x2], Own ao co 49 13 (rowE es), owes es, OwnO s.al s.cl 9 1 (strs s.ls), old W]⟩)
      (fun s => (n ≤ s.n ∧ s.n + s.ls.length = n + ls.length) ∧ s.ls.length ≤ s.cl ∧ filt y.ack (numb s.n s.ls) = filt y.ack (numb n ls)) (fun s => s.ls.length) ⟨ls, n, al, cl⟩ ⟨⟨Int.le_refl _, rfl⟩, hcap, rfl⟩
      (Wk.mk' [9, 2] [0, 0, 0, 0, 0] (by repeat' (first | exact trivial | rfl | apply And.intro)) ⟨⟨trivial, Ma.okL hok ta tc _⟩, ⟨trivial, hk32 _, trivial⟩, trivial⟩ ⟨rfl, rfl⟩) ?_
    rintro ⟨ls2, n2, al2, cl2⟩ ⟨hn2, hcap2, hf2⟩
    dsimp only at hn2 hcap2 hf2 ⊢
    conv => whnf
    refine Cond.dec (fun h5 => ?_) (fun h5 => ?_)
    case refine_2 =>
      have x2e' : x2.l.map Ly.ent = numb n2 ls2 := by rw [x2e, ← hf2, numb_all (by first | (left; omega) | (right; exact List.eq_nil_of_length_eq_zero (by omega)))]
      have hes' : es.map En.ent = (numb n2 ls2).take 8 := by rw [hes, x2e']
      have hesl : es.length = min ls2.length 8 := by
        have := congrArg List.length hes'
        rw [List.length_map, List.length_take, numb_len] at this
        omega
      have hx2l : x2.l.length = ls2.length := by
        have := congrArg List.length x2e'
        rw [List.length_map, numb_len] at this
        exact this
      have hent : ∀ (k : Nat) (h : k < es.length), (es[k]).seq = n2 + k ∧ (es[k]).b = ls2[k]'(by omega) := fun k h => by
        have h1 : (es.map En.ent)[k]'(by rw [List.length_map]; exact h) = ((numb n2 ls2).take 8)[k]'(by rw [List.length_take, numb_len]; omega) := by simp only [hes']
        rw [List.getElem_map, List.getElem_take, numb_get n2 ls2 k (by omega)] at h1
        exact ⟨congrArg (·.1) h1, congrArg (·.2.2) h1⟩
      conv => whnf
      refine Cond.neI (fun h => absurd rfl h) (fun _ => ?_)
      conv => whnf
      refine Cond.neI (fun h => absurd (by omega) h) (fun _ => ?_)
      conv => whnf
      refine CallOb.by' [] [0] (len_b _ g 256 [] [] x2 3 x2u (by simp)) rfl ⟨rfl, rfl, rfl, fun _ _ => ⟨rfl, ?_⟩⟩
      conv => whnf
      refine Cond.neI (fun h => absurd (by omega) h) (fun _ => ?_)
      conv => whnf
      refine LoopOb.mk' (σ := Nat) (fun k => [(1, .c (.rs a0 l.length c0)), (2, .c (.ptr 2 0)), (5, .c (.rp g 0)), (6, .c (.rs al2 ls2.length cl2)), (7, .c (.int .i64 n2)), (8, .c (.int .i64 i)), (109, .c (.rs ao es.length co)), (110, .c (.int .i64 es.length)), (111, .c (.int .i64 k))])
        (fun _ => ⟨[(2, b2)], [(2, [.many 32 (u8s key)], 23)], [Bs g 256 [x2], Own ao co 49 13 (rowE es), owes es, OwnO al2 cl2 9 1 (strs ls2), old W]⟩) (fun k => k ≤ es.length) (fun k => es.length - k) 0 (Nat.zero_le _)
        (Wk.mk' [2] [0, 0, 0, 0, 0] (by repeat' (first | exact trivial | rfl | apply And.intro)) ⟨⟨trivial, hk32 _, trivial⟩, trivial⟩ ⟨rfl, rfl⟩) ?_
      intro k hk
      conv => whnf
      refine Cond.dec (fun h7 => ?_) (fun h7 => ?_)
      · have hk' : k < es.length := by omega
        have hrow2 := rowE_row hesok (R := Own ao co 49 13 (rowE es)) (a := ao) Own.rd
        have hyk := hent k hk'
        have hymem := List.getElem_mem hk'
        conv => whnf
        refine ⟨by omega, row_ptr (n := 12) (A := Own ao co 49 13 (rowE es)) (by simp) (Ent.refl _) hrow2 (by omega) fun q hq => ?_⟩
        rw [hq] at hrow2
        conv => whnf
        refine ldrow (n := 12) k (A := Own ao co 49 13 (rowE es)) (by simp) (Ent.refl _) (by rw [hq]; exact hrow2) hk' rfl rfl rfl rfl fun cs hcs => ?_
        obtain ⟨rfl, hyo⟩ := hcs
        generalize hyy : es[k] = y at hyk hyo hymem ⊢
        have hk8e := many_ok hyo.id
        refine ⟨y.sg, rfl, En.okL hyo.id [], rfl, ?_⟩
        conv => whnf
        intro b13
        conv => whnf
        refine Draw.quiet (by kernel_rfl) tt_ok [0, 1, 2, 3, 4, 5, 6, 7, 8, 10, 11, 12, 13, 9, 14, 15] (by kernel_rfl) ?_
        conv => whnf
        refine Ar.i64 (by omega) ?_
        conv => whnf
        refine Cond.neI (fun h => absurd hyk.1 h) (fun _ => ?_)
        conv => whnf
        refine ⟨by omega, PtrOb.rd (A := OwnO al2 cl2 9 1 (strs ls2)) (by simp) OwnO.rd (by rw [strs_len]; omega) fun q2 hq2 => ?_⟩
        conv => whnf
        refine ld (A := OwnO al2 cl2 9 1 (strs ls2)) k (.str (bs (ls2[k]'(by omega)))) rfl (by simp) (by rw [← hq2]; exact OwnO.rd) rfl (by show _ + (k : Int).toNat * 1 = _ + k; omega) (by rw [strs, List.getElem?_map, List.getElem?_eq_getElem (by omega)]; rfl) trivial ?_
        conv => whnf
        refine conv_str (l := y.b) (k := y.b.length) (x := .c (.rs y.a y.b.length y.cap)) Tryd.underlying34 Tryd.underlying5 Tryd.underlying9 (Src.rs (A := owes es) (by simp) (Rd.all (A := oweb y) (List.mem_map.2 ⟨y, hymem, rfl⟩) Own.rd)) rfl (fun s h => by cases h) ?_
        conv => whnf
        refine Sub.whole ?_
        conv => whnf
        refine Cond.not (Cond.str (fun _ => ?_) (fun h => absurd hyk.2 h))
        conv => whnf
        refine Ar.i64 (by omega) ?_
        conv => whnf
        exact ⟨k + 1, by omega, by omega, Wk.mk' [2] [0, 0, 0, 0, 0] (by repeat' (first | exact trivial | rfl | apply And.intro)) ⟨⟨trivial, hk32 _, trivial⟩, trivial⟩ ⟨rfl, rfl⟩⟩
      conv => whnf
      refine Ar.i64 (by omega) ?_
      conv => whnf
      exact ⟨⟨i + 1, x2, ls2, n2, al2, cl2⟩, ⟨⟨by dsimp only; omega, by dsimp only; omega⟩, x2u, x2k, x2e', by dsimp only; omega, ⟨by dsimp only; omega, by dsimp only; omega⟩, hcap2⟩, by dsimp only; omega, Wk.mk' [2] [0, 2, 2] (by repeat' (first | exact trivial | rfl | apply And.intro)) ⟨⟨trivial, hk32 _, trivial⟩, trivial⟩ ⟨rfl, rfl⟩⟩
    conv => whnf
    refine Cond.dec (fun h6 => ?_) (fun h6 => ?_)
    case refine_2 =>
      have x2e' : x2.l.map Ly.ent = numb n2 ls2 := by rw [x2e, ← hf2, numb_all (by first | (left; omega) | (right; exact List.eq_nil_of_length_eq_zero (by omega)))]
      have hes' : es.map En.ent = (numb n2 ls2).take 8 := by rw [hes, x2e']
      have hesl : es.length = min ls2.length 8 := by
        have := congrArg List.length hes'
        rw [List.length_map, List.length_take, numb_len] at this
        omega
      have hx2l : x2.l.length = ls2.length := by
        have := congrArg List.length x2e'
        rw [List.length_map, numb_len] at this
        exact this
      have hent : ∀ (k : Nat) (h : k < es.length), (es[k]).seq = n2 + k ∧ (es[k]).b = ls2[k]'(by omega) := fun k h => by
        have h1 : (es.map En.ent)[k]'(by rw [List.length_map]; exact h) = ((numb n2 ls2).take 8)[k]'(by rw [List.length_take, numb_len]; omega) := by simp only [hes']
        rw [List.getElem_map, List.getElem_take, numb_get n2 ls2 k (by omega)] at h1
        exact ⟨congrArg (·.1) h1, congrArg (·.2.2) h1⟩
      conv => whnf
      refine Cond.neI (fun h => absurd rfl h) (fun _ => ?_)
      conv => whnf
      refine Cond.neI (fun h => absurd (by omega) h) (fun _ => ?_)
      conv => whnf
      refine CallOb.by' [] [0] (len_b _ g 256 [] [] x2 3 x2u (by simp)) rfl ⟨rfl, rfl, rfl, fun _ _ => ⟨rfl, ?_⟩⟩
      conv => whnf
      refine Cond.neI (fun h => absurd (by omega) h) (fun _ => ?_)
      conv => whnf
      refine LoopOb.mk' (σ := Nat) (fun k => [(1, .c (.rs a0 l.length c0)), (2, .c (.ptr 2 0)), (5, .c (.rp g 0)), (6, .c (.rs al2 ls2.length cl2)), (7, .c (.int .i64 n2)), (8, .c (.int .i64 i)), (109, .c (.rs ao es.length co)), (110, .c (.int .i64 es.length)), (111, .c (.int .i64 k))])
        (fun _ => ⟨[(2, b2)], [(2, [.many 32 (u8s key)], 23)], [Bs g 256 [x2], Own ao co 49 13 (rowE es), owes es, OwnO al2 cl2 9 1 (strs ls2), old W]⟩) (fun k => k ≤ es.length) (fun k => es.length - k) 0 (Nat.zero_le _)
        (Wk.mk' [2] [0, 0, 0, 0, 0] (by repeat' (first | exact trivial | rfl | apply And.intro)) ⟨⟨trivial, hk32 _, trivial⟩, trivial⟩ ⟨rfl, rfl⟩) ?_
      intro k hk
      conv => whnf
      refine Cond.dec (fun h7 => ?_) (fun h7 => ?_)
      · have hk' : k < es.length := by omega
        have hrow2 := rowE_row hesok (R := Own ao co 49 13 (rowE es)) (a := ao) Own.rd
        have hyk := hent k hk'
        have hymem := List.getElem_mem hk'
        conv => whnf
        refine ⟨by omega, row_ptr (n := 12) (A := Own ao co 49 13 (rowE es)) (by simp) (Ent.refl _) hrow2 (by omega) fun q hq => ?_⟩
        rw [hq] at hrow2
        conv => whnf
        refine ldrow (n := 12) k (A := Own ao co 49 13 (rowE es)) (by simp) (Ent.refl _) (by rw [hq]; exact hrow2) hk' rfl rfl rfl rfl fun cs hcs => ?_
        obtain ⟨rfl, hyo⟩ := hcs
        generalize hyy : es[k] = y at hyk hyo hymem ⊢
        have hk8e := many_ok hyo.id
        refine ⟨y.sg, rfl, En.okL hyo.id [], rfl, ?_⟩
        conv => whnf
        intro b13
        conv => whnf
        refine Draw.quiet (by kernel_rfl) tt_ok [0, 1, 2, 3, 4, 5, 6, 7, 8, 10, 11, 12, 13, 9, 14, 15] (by kernel_rfl) ?_
        conv => whnf
        refine Ar.i64 (by omega) ?_
        conv => whnf
        refine Cond.neI (fun h => absurd hyk.1 h) (fun _ => ?_)
        conv => whnf
        refine ⟨by omega, PtrOb.rd (A := OwnO al2 cl2 9 1 (strs ls2)) (by simp) OwnO.rd (by rw [strs_len]; omega) fun q2 hq2 => ?_⟩
        conv => whnf
        refine ld (A := OwnO al2 cl2 9 1 (strs ls2)) k (.str (bs (ls2[k]'(by omega)))) rfl (by simp) (by rw [← hq2]; exact OwnO.rd) rfl (by show _ + (k : Int).toNat * 1 = _ + k; omega) (by rw [strs, List.getElem?_map, List.getElem?_eq_getElem (by omega)]; rfl) trivial ?_
        conv => whnf
        refine conv_str (l := y.b) (k := y.b.length) (x := .c (.rs y.a y.b.length y.cap)) Tryd.underlying34 Tryd.underlying5 Tryd.underlying9 (Src.rs (A := owes es) (by simp) (Rd.all (A := oweb y) (List.mem_map.2 ⟨y, hymem, rfl⟩) Own.rd)) rfl (fun s h => by cases h) ?_
        conv => whnf
        refine Sub.whole ?_
        conv => whnf
        refine Cond.not (Cond.str (fun _ => ?_) (fun h => absurd hyk.2 h))
        conv => whnf
        refine Ar.i64 (by omega) ?_
        conv => whnf
        exact ⟨k + 1, by omega, by omega, Wk.mk' [2] [0, 0, 0, 0, 0] (by repeat' (first | exact trivial | rfl | apply And.intro)) ⟨⟨trivial, hk32 _, trivial⟩, trivial⟩ ⟨rfl, rfl⟩⟩
      conv => whnf
      refine Ar.i64 (by omega) ?_
      conv => whnf
      exact ⟨⟨i + 1, x2, ls2, n2, al2, cl2⟩, ⟨⟨by dsimp only; omega, by dsimp only; omega⟩, x2u, x2k, x2e', by dsimp only; omega, ⟨by dsimp only; omega, by dsimp only; omega⟩, hcap2⟩, by dsimp only; omega, Wk.mk' [2] [0, 2, 2] (by repeat' (first | exact trivial | rfl | apply And.intro)) ⟨⟨trivial, hk32 _, trivial⟩, trivial⟩ ⟨rfl, rfl⟩⟩
    conv => whnf
    refine ⟨by omega, ?_⟩
    conv => whnf
    refine Ar.i64 (by omega) ?_
    conv => whnf
    obtain ⟨b0, r0, rfl⟩ : ∃ b r, ls2 = b :: r := by cases ls2 with
      | nil => simp at h6
      | cons b r => exact ⟨b, r, rfl⟩
    refine ⟨⟨r0, n2 + 1, cutA al2 cl2 1 1, cl2 - 1⟩, ⟨⟨by dsimp only; omega, by dsimp only; simp at hn2; omega⟩, by dsimp only; simp at hcap2; omega, by rw [← hf2, numb_skip h5]⟩, by simp, ?_⟩
    refine Wk.turn (F' := [Bs g 256 [x2], Own ao co 49 13 (rowE es), owes es, OwnO (cutA al2 cl2 1 1) (cl2 - 1) 9 1 (strs r0), old W]) (fun _ s => ?_) ?_
    · have s1 := seps_perm (List.perm_middle (l₁ := [Bs g 256 [x2], Own ao co 49 13 (rowE es), owes es])) s
      refine seps_perm (List.perm_middle (l₁ := [Bs g 256 [x2], Own ao co 49 13 (rowE es), owes es])).symm (seps_imp (fun g h => ?_) s1)
      have := OwnO.cut (n := (b0 :: r0).length) 1 (by rw [strs_len]; omega) (by simp) hcap2 g h
      simpa [strs] using this
    · exact Wk.mk' [9, 2] [0, 0, 0, 0, 0] (by repeat' (first | exact trivial | rfl | apply And.intro)) ⟨⟨trivial, Ma.okL hok ta tc _⟩, ⟨trivial, hk32 _, trivial⟩, trivial⟩ ⟨rfl, rfl⟩
section
variable {H : Type} {enc : TypeId × Value → H} {base : Nat} {v0 v1 v2 : Value} {d0 d1 d2 : DataW H} {p0 p1 p2 : List MemPlace}
theorem mailboxKept_law (W : World) (hL : laidMetH Tryd.prog kLaid W) (ok0 : Value.okWide Tryd.prog W .any base 23 v0) (ok1 : Value.okWide Tryd.prog W .any base 24 v1)
    (h0 : DataW.Trod enc Tryd.prog W 0 (fun _ => true) true 23 v0 d0 p0) (h1 : DataW.Trod enc Tryd.prog W 0 (fun _ => true) true 24 v1 d1 p1) :
    Calls Tryd.prog 3 #[v0, v1] W fun e w' => e = .returned (.bool true) ∧ Below W.heap.size W w' := by
  obtain ⟨b, rfl, hb⟩ := arg_key W ok0 h0
  obtain ⟨a, cap, l, rfl, h⟩ := arg_macs W ok1 h1
  exact law_calls (kept_c W (gl_of_laid hL) b hb a cap l h) rfl
end
end Go.Proofs.YtiimeklgjoclpaaDoor
