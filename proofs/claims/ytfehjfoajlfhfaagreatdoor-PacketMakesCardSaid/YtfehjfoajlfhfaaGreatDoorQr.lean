import Derived.Test.YtfehjfoajlfhfaaGreatDoorQq
import Derived.Test.YtfehjfoajlfhfaaGreatDoorQp
namespace Go.Proofs.YtfehjfoajlfhfaaGreatDoor
open Go.Sx
set_option maxRecDepth 100000
set_option pp.deepTerms false
set_option pp.maxSteps 300
set_option linter.unusedSimpArgs false
set_option linter.unusedVariables false
section
abbrev ptrK (g : Nat) : Value := .pointer (some ⟨g, 0, none⟩)
abbrev qBk (g : Nat) (a : Option Addr) (n cap : Nat) : List Cel := [(g, [.one (.rs a n cap)], 60)]
def backs (l : List (List UInt8)) : List (SV × SV) := (List.range l.length).map fun j => (.c (.int .i64 ((l.length - 1 - j : Nat) : Int)), .agg [.many 32 (u8s (kAt l (l.length - 1 - j)))])
theorem q9m (l : List (List UInt8)) : (backs l).length = l.length := by simp [backs]
theorem qf1 {l : List (List UInt8)} {j : Nat} (h : j < l.length) : (backs l)[j]? = some (.c (.int .i64 ((l.length - 1 - j : Nat) : Int)), .agg [.many 32 (u8s (l[l.length - 1 - j]'(by omega)))]) := by
  unfold backs; rw [List.getElem?_map, List.getElem?_range h, Option.map_some, q5d (by omega)]
theorem qgq (A : HP) (a : Option Addr) (cap n : Nat) : Con Tryz.prog 55 [.c (.rs a n cap)] [] [] A (fun _ : Nat => True)
    (fun g => .c (.raw (.func (.func 92) #[] #[ptrK g]))) (fun _ => []) (fun g => [all ((qBk g a n cap).map Cel.p)]) := by
  refine Con.of' tt_ok Tryz.func55 rfl (by decide) [.c (.rs a n cap)] [] [] rfl rfl trivial kk rfl ?_; (conv => whnf); intro b1; (conv => whnf); refine Ret.grp [1] [] ?_; exact Ret.m b1 [] [0, 0] trivial rfl kk trivial ⟨rfl, rfl⟩
theorem qe5 (a : Option Addr) (cap g : Nat) (l : List (List UInt8)) (hl : okK l) (hn : l.length ≤ 1000000) :
    Iter2 Tryz.prog 92 [ptrK g] (backs l) (qBk g a l.length cap) [RowK a cap 23 l] (fun _ : Unit => True) (fun _ => qBk g a l.length cap) (fun _ => [RowK a cap 23 l]) := by
  intro L K A hY; rw [q9m]; refine Con.of' tt_ok Tryz.func92 rfl (by decide) [.c (.raw (.func (.yield L) #[] #[])), .c (.ptr 1000 0)] [(1000, g)] [(1000, [.one (.rs a l.length cap)], 60)] rfl rfl kk kk rfl ?_; (conv => whnf); refine Ar.i64 (by omega) ?_; conv => whnf
  refine LoopOb.m (σ := Nat) (fun j => [(0, .c (.raw (.func (.yield L) #[] #[]))), (1, .c (.ptr 1000 0)), (3, .c (.int .i64 ((l.length : Int) - 1 - j)))])
    (fun j => ⟨[(1000, g)], [(1000, [.one (.rs a l.length cap)], 60)], [K j, RowK a cap 23 l, A]⟩) (fun j => j ≤ l.length) (fun j => l.length - j) 0 (Nat.zero_le _)
    (Wk.m [1000] [0, 0, 0] ⟨⟨rfl, kk⟩, ⟨rfl, kk⟩, ⟨?_, kk⟩, trivial⟩ kk ⟨rfl, rfl⟩) ?_
  · show Value.int .i64 _ = Value.int .i64 _; congr 1 <;> omega
  intro j hj; (conv => whnf); refine Cond.d (fun h => ?_) (fun h => ?_)
  · have hj1 : j < l.length := by omega
    have ei : (l.length : Int) - 1 - j = ((l.length - 1 - j : Nat) : Int) := by omega
    rw [ei]; have ex := qf1 hj1; (conv => whnf); refine ⟨by omega, PtrOb.rd (A := RowK a cap 23 l) (by simp) Own.rd (by rw [q0r hl]; omega) fun p hp => ?_⟩; subst hp; (conv => whnf); refine ldk (A := RowK (some (radr p)) cap 23 l) (l := l) (l.length - 1 - j) (by simp) Own.rd hl (by omega) rfl rfl rfl (by show _ + ((l.length - 1 - j : Nat) : Int).toNat * 32 = _; omega) ?_; (conv => whnf); refine YieldOb.by2 0 (hY j _ ex) rfl ⟨rfl, ?_⟩; (conv => whnf); refine Ar.i64 (by omega) ?_; conv => whnf
    refine ⟨j + 1, by omega, by omega, Wk.m [1000] [0, 0, 0] ⟨⟨rfl, kk⟩, ⟨rfl, kk⟩, ⟨?_, kk⟩, trivial⟩ kk ⟨rfl, rfl⟩⟩; show Value.int .i64 _ = Value.int .i64 _; congr 1 <;> omega
  · obtain rfl : j = l.length := by omega
    (conv => whnf); exact Ret.m () [1000] [0, 0, 0] trivial rfl kk kk ⟨rfl, rfl⟩
end
section
attribute [local irreducible] macD q03 strS q05 q00 q02 q0f q06 q07 q08 q0a q0g q0d lionB lockS q0j
structure NpS where
  a : Option Addr
  c : Nat
  X : HP
set_option maxHeartbeats 2000000 in
theorem qml (A R R' : HP) (hE : Ent A R) (hE' : Ent A R') (hK : Gl A) (x : List UInt8) (hx : x.length = 32) (a : Option Addr) (cap : Nat) (hs : List HopS) (ho : okHs hs) (hr : Rd R a (rowH hs)) (hn : hs.length ≤ 1000000)
    (ar : Option Addr) (cr : Nat) (room : List UInt8) (hb : Bts R' ar cr room) (hn2 : room.length ≤ 1000000) :
    BXE 17 [.agg [.many 32 (u8s x)], .c (.rs a hs.length cap), .c (.rs ar room.length cr)] A (packS x hs room) := by
  have hr := hr.ent hE; have hb := hb.ent hE'; have hks := mok hx; have hB := built (x := x) ho; have hl5 : (q0d x hs).2.2 = 0 → (q0d x hs).2.1.length ≤ 5 := fun _ => (q8g x ho).2.2; have CB := fun A R hE hK a c hr hn => qnt A R hE hK x hx a c hs ho hr hn; have hP : packS x hs room = if room.length = 512 then (if (q0d x hs).2.2 = 0 then (encH (q0d x hs).1 ++ bodyS (z16 ++ room) (q0d x hs).2.1, 0) else ([], (q0d x hs).2.2)) else ([], 5) := rfl; rw [hP]; generalize q0d x hs = B at hB hl5 CB ⊢; obtain ⟨h, ss, e⟩ := B
  have ok1 := hB.ok; have oks := hB.ks; have hlen := hB.len; clear hB hP; dsimp only at ok1 oks hlen hl5 CB ⊢; refine Con.ofM' tt_ok Tryz.func17 rfl (by decide) [.agg [.many 32 (u8s x)], .c (.rs a hs.length cap), .c (.rs ar room.length cr)] [] [] rfl rfl trivial ⟨⟨hks _, trivial⟩, trivial, trivial, trivial⟩ rfl ?_; (conv => whnf); intro b3; (conv => whnf); intro b6; (conv => whnf); intro b7; (conv => whnf); refine Cond.neI (fun h9 => ?_) (fun h5 => ?_)
  · rw [if_neg (by omega)]; (conv => whnf); refine .no ?_; (conv => whnf); refine Ret.own0 5 1 ?_; exact Ret.m (none, 0, Own none 0 5 1 []) [] [0, 0] q1m rfl kk kk ⟨rfl, rfl⟩
  have h5 : room.length = 512 := by omega
  rw [if_pos h5]; (conv => whnf); refine Cq.new (CB _ A (Ent.a mm) (hK.ent (Ent.a mm)) a cap hr hn) rfl ?_; rintro ⟨a9, c9⟩ h9; dsimp only at h9 ⊢; (conv => whnf); intro b8; (conv => whnf); intro b10; (conv => whnf); refine Cond.neI (fun he => ?_) (fun he => ?_)
  · rw [if_neg he]; (conv => whnf); refine Draw.a (by kernel_rfl) tt_ok (Tv.of (List.range 3) .nil) 2 (by kernel_rfl) ?_; (conv => whnf); refine Sub.r [10, 8, 7, 6, 3] [0, 0] ?_; (conv => whnf); refine .no ?_; (conv => whnf); refine Ret.own0 5 1 ?_; exact Ret.m (none, 0, Own none 0 5 1 []) [] [0, 1] q1m rfl kk kk ⟨rfl, rfl⟩
  subst he; rw [if_pos rfl]; obtain ⟨hsl, h1l⟩ := hlen rfl; have hnl : ss.length ≤ 5 := hl5 rfl; (conv => whnf); refine ⟨by decide, ?_⟩; intro b27; (conv => whnf); refine q3j (a := some (radr (b27, 0))) (n := 16) (cap := 16) (k := room.length) (xs := u8s z16) (ys := u8s room) rfl (Src.slc (by exact ⟨[], by show List.replicate 16 (Value.int .u8 0) ++ [] = _; unfold z16; rw [q3k]⟩)) (by omega) (by rw [u8l, q3v]) (q0x _) (u8l _) (Src.rs (A := A) (by simp) hb.1) (q0x _) ⟨rfl, by decide, by decide⟩ (by omega) 24 (.inr rfl) ?_; intro a12 c12 hc12 hn12
  rw [← q0l, show 16 + room.length = 528 by omega]; (conv => whnf); intro b11; (conv => whnf); refine Cq.new (qgq _ a9 c9 ss.length) rfl fun g _ => ?_; (conv => whnf); refine ⟨rfl, ?_⟩; have hit := qe5 a9 c9 g ss oks (by omega); have hrun : Runs Tryz.prog 92 := Runs.of Tryz.func92 rfl (by decide); have hz0 : (z16 ++ room).length = 528 := by rw [List.length_append, q3v, h5]
  have hbl := fun k => q9f (b := z16 ++ room) (by omega) (by omega) (ss.drop k)
  have bok : ∀ (a' : Option Addr) (c' : Nat), okH [(11, b11), (10, b10), (8, b8), (7, b7), (6, b6), (3, b3)] [(11, [.one (.rs a' 528 c')], 24), (10, [.one (.int .i64 0)], 34), (8, h.sg, 59), (7, [.one (.int .i64 0)], 34), (6, [.one (.rs none 0 0)], 24), (3, [.many 32 (u8s x)], 23)] :=
    fun _ _ => ⟨⟨kk, trivial, trivial⟩, ⟨kk, trivial, trivial⟩, ⟨kk, HdrS.okL ok1 _⟩, ⟨kk, trivial, trivial⟩, ⟨kk, trivial, trivial⟩, ⟨kk, hks _, trivial⟩, trivial⟩
  refine RangeOb2.by' (σ := NpS) (fun i s => Bts s.X s.a s.c (bodyS (z16 ++ room) (ss.drop (ss.length - i))))
    (fun s => ([(11, [.one (.rs s.a 528 s.c)], 24), (10, [.one (.int .i64 0)], 34), (8, h.sg, 59), (7, [.one (.int .i64 0)], 34), (6, [.one (.rs none 0 0)], 24), (3, [.many 32 (u8s x)], 23)], [s.X, A]))
    [11, 10, 8, 7, 6, 3] [0, 1] [0, 0] ⟨a12, c12, Own a12 c12 5 1 (u8s (z16 ++ room))⟩ [all ((qBk g a9 ss.length c9).map Cel.p), RowK a9 c9 23 ss] (fun g s => q11.1 s) rfl hrun hit ?_ ?_ ⟨rfl, ⟨rfl, bok a12 c12⟩, rfl⟩ ?_ ?_
  · dsimp only; rw [Nat.sub_zero, List.drop_length]; exact q3w (l := z16 ++ room) ⟨by omega, fun h => absurd h hn12⟩
  · intro z hz; obtain ⟨j, hj, rfl⟩ := List.mem_map.1 hz; have hj := List.mem_range.1 hj; have hk : (kAt ss (ss.length - 1 - j)).length = 32 := by rw [q5d (by omega)]; exact oks _ (List.getElem_mem _)
    exact ⟨trivial, q01 ⟨mok hk _, trivial⟩⟩
  · rintro i ⟨aB, cB, X⟩ z hz hk R0
    have hi : i < ss.length := by
      have := (List.getElem?_eq_some_iff.1 hz).1
      rwa [q9m] at this
    rw [qf1 hi] at hz; obtain rfl := Option.some.inj hz; dsimp only at hk ⊢; obtain ⟨q, hq⟩ : ∃ q, ss.length - 1 - i = q := ⟨_, rfl⟩; have hq1 : ss.length - i = q + 1 := by omega
    have hq2 : ss.length - (i + 1) = q := by omega
    have hqs : q < ss.length := by omega
    have hkq : ss[q].length = 32 := oks _ (List.getElem_mem hqs); have hst := qdn (z16 ++ room) hqs; have hb1 := hbl (q + 1); have hb2 := hbl q; rw [hq1] at hk; simp only [hq]; (conv => whnf); intro b13; (conv => whnf); refine ⟨trivial, _, _, rfl, fun R1 => ?_⟩; (conv => whnf); refine Draw.a (by kernel_rfl) tt_ok (Tv.of [0, 2, 1, 3, 4, 5, 6, 7, 8] .nil) 7 (by kernel_rfl) ?_; (conv => whnf); refine Cq.pu (q77 _ (hK.ent (Ent.a mm)) ss[q] hkq) rfl ?_; (conv => whnf); refine Sub.r [13, 11, 10, 8, 7, 6, 3] [0, 0, 0] ?_; conv => whnf
    have hlk := q4v (key := q0j ss[q]) (b := bodyS (z16 ++ room) (ss.drop (q + 1))) (by omega) (by omega); refine Cq.new (qmc _ X (Ent.a mm) (hK.ent (Ent.a mm)) (q0j ss[q]) (q15 _) aB cB (bodyS (z16 ++ room) (ss.drop (q + 1))) hk (by omega)) (by rw [hb1, hz0]; rfl) ?_; rw [hlk.1, hlk.2, ← hst, hb1, hz0]; rintro ⟨a15, c15⟩ h15; dsimp only at h15 ⊢; (conv => whnf); refine Sub.r [13, 11, 10, 8, 7, 6, 3] [1, 1, 1] ?_; (conv => whnf); refine Cond.neI (fun h => absurd rfl h) (fun _ => ?_); conv => whnf
    refine ⟨trivial, ⟨a15, c15, Own a15 c15 5 1 (u8s (bodyS (z16 ++ room) (ss.drop q)))⟩, by dsimp only; rw [hq2]; exact q3w h15, ?_⟩; dsimp only; exact qj6 [11, 10, 8, 7, 6, 3] [0, 1, 1] (bok a15 c15) ⟨rfl, rfl⟩ (fun g s => s)
  · rintro ⟨aB, cB, X⟩ _ r hk _; dsimp only at hk ⊢; rw [q9m, Nat.sub_self, List.drop_zero] at hk; have hb0 := hbl 0; rw [List.drop_zero] at hb0; generalize bodyS (z16 ++ room) ss = Y at hk hb0 ⊢; (conv => whnf); refine Draw.a (by kernel_rfl) tt_ok (Tv.of [0, 2, 1, 3, 4, 5] .nil) 4 (by kernel_rfl) ?_; (conv => whnf); refine Cq.fb (qfz _ h ok1) rfl fun a45 c45 h45 => ?_; have hel := q5a ok1; (conv => whnf); refine Sub.r [11, 10, 8, 7, 6, 3] [1, 1, 1, 1, 1] ?_; conv => whnf
    refine appb (l := encH h) (m := Y) (.refl _) (Src.rs (A := X) (by simp) hk.1) rfl (by rw [hb0, hz0]) ⟨rfl, by decide, by decide⟩ (by omega) 24 (.inr rfl) ?_; intro a47 c47 h47; (conv => whnf); refine Sub.r [11, 10, 8, 7, 6, 3] [1, 1, 1, 1, 1] ?_; (conv => whnf); refine .one 5 r rfl ⟨rfl, ?_⟩; (conv => whnf); exact Ret.m (a47, c47, Own a47 c47 5 1 (u8s (encH h ++ Y))) [] [0, 3] (q3w h47) rfl kk kk ⟨rfl, rfl⟩
end
section
attribute [local irreducible] macD q03 strS q05 q00 q02 q0f q06 q07 q08 q0a q0g q0d lionB lockS q1h q0j openB q0n decC tagH q1g q1d q1e q0h peelS packS leB
def room0 : List UInt8 := 7 :: List.replicate 511 0
theorem qci : room0.length = 512 := rfl
theorem qj3 {b t : Nat} {fz : Nat × Nat} {xs ys : List Value} (h : xs = ys) : Rd (blk b (.cells xs.toArray t fz)) (some (radr (b, 0))) ys := by
  subst h
  exact Rd.blk rfl fun j u hj => by
    show xs.toArray[0 + j]? = some u; rw [List.getElem?_toArray, Nat.zero_add, hj]
theorem qib (A : HP) (hK : Gl A) : Pu Tryz.prog 13 [] A (.c .tt) := by
  have h9 : nineS.length = 32 := qfk; have k1l : ke1.length = 32 := by decide
  have p1l := q2p ke1
  have hops : okHs hopB := by
    intro h hh; simp only [hopB, List.mem_cons, List.not_mem_nil, or_false] at hh; subst hh; exact ⟨p1l, rfl⟩
  have hpk := qnd qci; have hpl := qny qci; have hp0 : peelS ke1 room0 = (peel0, 5) := qmu (by decide)
  have hPl : (encH zHB ++ (lockS (q0j zS0) (z16 ++ room0)).1).length = 736 := by
    have hl : (z16 ++ room0).length = 528 := rfl; rw [List.length_append, q5a qhh, (q4v (by omega) (by omega)).1, hl]
  generalize encH zHB ++ (lockS (q0j zS0) (z16 ++ room0)).1 = Pk at hpk hpl hPl; generalize tagH zS0 = tg at hpl; refine Con.of' tt_ok Tryz.func13 rfl (by decide) [] [] [] rfl rfl trivial trivial rfl ?_; (conv => whnf); intro b1; (conv => whnf); refine ⟨by decide, ?_⟩; intro b10; (conv => whnf); refine ⟨by decide, ?_⟩; (conv => whnf); refine ⟨⟨rfl, by decide⟩, ?_⟩; (conv => whnf); refine Cq.pu (qbf _ ke1 k1l) rfl ?_; (conv => whnf); intro b19; conv => whnf
  refine Cq.new (qml _ _ _ (Ent.a (.head _)) (Ent.a (.tail _ (.head _))) (hK.ent (Ent.a mm)) nineS h9 (some (radr (b19, 0))) 1 hopB hops (qj3 (by show _ = HopS.cs _ ++ []; simp [HopS.cs, dens, Seg.den, SC.den]; exact ⟨rfl, rfl, rfl, rfl⟩)) (by decide) (some (radr (b10, 0))) 512 room0 ⟨qj3 (by kernel_rfl), by decide, fun h => by cases h⟩ (by decide)) rfl ?_; rw [hpk]; rintro ⟨a3, c3, X3⟩ h3; dsimp only at h3 ⊢; (conv => whnf); refine Cq.new (qmd _ X3 (Ent.a mm) (hK.ent (Ent.a mm)) ke1 k1l a3 c3 Pk h3 (by omega)) rfl ?_; rw [hpl]; rintro ⟨an, cn, ar, cr, X5⟩ h5
  dsimp only at h5 ⊢; (conv => whnf); intro b5; (conv => whnf); refine Cq.new (qmd _ _ (Ent.a (.tail _ (.tail _ (.head _)))) (hK.ent (Ent.a mm)) ke1 k1l (some (radr (b10, 0))) 512 room0 ⟨qj3 (by kernel_rfl), by decide, fun h => by cases h⟩ (by decide)) rfl ?_; rw [hp0]; rintro ⟨an2, cn2, ar2, cr2, X7⟩ h7; dsimp only at h7 ⊢; (conv => whnf); intro b7; (conv => whnf); refine Cond.eqI (fun _ => ?_) (fun h => absurd rfl h); (conv => whnf); refine Cond.eqI (fun _ => ?_) (fun h => absurd (by omega) h); (conv => whnf); refine Cond.eqI (fun _ => ?_) (fun h => absurd rfl h)
  (conv => whnf); refine q25 (l := room0) (k := room0.length) rfl rfl rfl (Src.rs (A := X5) (by simp) h5.2.1) rfl (fun s e => by cases e) ?_; (conv => whnf); refine q25 (l := room0) (k := 512) rfl rfl rfl (Src.slc (by exact ⟨[], by kernel_rfl⟩)) rfl (fun s e => by cases e) ?_; (conv => whnf); refine Cond.str (fun _ => ?_) (fun h => absurd rfl h); (conv => whnf); refine Cond.eqI (fun _ => ?_) (fun h => absurd rfl h); (conv => whnf); refine Cond.eqI (fun _ => ?_) (fun h => absurd rfl h); (conv => whnf); exact Ret.m () [] [3] trivial rfl kk kk ⟨rfl, rfl⟩
end
section
attribute [local irreducible] macD q03 strS q05 q00 q02 q0f q06 q07 q08 q0a q0g q0d lionB lockS q1h q0j openB q0n decC tagH q1g q1d q1e q0h
end
end Go.Proofs.YtfehjfoajlfhfaaGreatDoor
