/- Boxes: what lay too long goes. -/
import Derived.Test.YtiimeklgjoclpaaDoorMl
namespace Go.Proofs.YtiimeklgjoclpaaDoor
open Go.Sx
set_option maxRecDepth 100000
set_option pp.deepTerms false
set_option pp.maxSteps 300
set_option linter.unusedSimpArgs false
set_option linter.unusedVariables false

theorem box_iff {pre post : List Bx} {y : Bx} {l₁ r : List HProp} {h : Hp} : seps (l₁ ++ all ((pre ++ y :: post).map BxP) :: r) h ↔ seps (Cel.p (bcel y) :: (l₁ ++ (brow y :: owbs y.l :: all ((pre ++ post).map BxP) :: r))) h := by
  have e1 : seps (l₁ ++ all ((pre ++ y :: post).map BxP) :: r) h ↔ seps (l₁ ++ ((pre ++ y :: post).map BxP ++ r)) h := seps_in
  have p1 : (l₁ ++ ((pre ++ y :: post).map BxP ++ r)).Perm (BxP y :: (l₁ ++ ((pre ++ post).map BxP ++ r))) := by
    have a : ((pre ++ y :: post).map BxP ++ r).Perm (BxP y :: ((pre ++ post).map BxP ++ r)) := (List.perm_middle.map BxP).append_right r
    exact (a.append_left l₁).trans List.perm_middle
  have e2 : seps (l₁ ++ ((pre ++ y :: post).map BxP ++ r)) h ↔ seps (BxP y :: (l₁ ++ ((pre ++ post).map BxP ++ r))) h := ⟨seps_perm p1, seps_perm p1.symm⟩
  have e3 : seps (BxP y :: (l₁ ++ ((pre ++ post).map BxP ++ r))) h ↔ seps ([Cel.p (bcel y), brow y, owbs y.l] ++ (l₁ ++ ((pre ++ post).map BxP ++ r))) h := seps_all
  have p2 : ([Cel.p (bcel y), brow y, owbs y.l] ++ (l₁ ++ ((pre ++ post).map BxP ++ r))).Perm ((Cel.p (bcel y) :: (l₁ ++ [brow y, owbs y.l])) ++ ((pre ++ post).map BxP ++ r)) := by
    have : ([brow y, owbs y.l] ++ l₁).Perm (l₁ ++ [brow y, owbs y.l]) := List.perm_append_comm
    rw [← List.append_assoc]
    exact (List.Perm.cons _ this).append_right _
  have e4 : seps ([Cel.p (bcel y), brow y, owbs y.l] ++ (l₁ ++ ((pre ++ post).map BxP ++ r))) h ↔ _ := ⟨seps_perm p2, seps_perm p2.symm⟩
  have e5 : seps ((Cel.p (bcel y) :: (l₁ ++ [brow y, owbs y.l])) ++ all ((pre ++ post).map BxP) :: r) h ↔ _ := seps_in
  have e6 : (Cel.p (bcel y) :: (l₁ ++ [brow y, owbs y.l])) ++ all ((pre ++ post).map BxP) :: r = Cel.p (bcel y) :: (l₁ ++ (brow y :: owbs y.l :: all ((pre ++ post).map BxP) :: r)) := by simp
  rw [← e6]
  exact e1.trans (e2.trans (e3.trans (e4.trans e5.symm)))
theorem ment_mem : ∀ {xs : List Bx} {k : Nat} {e : Int × Value × Nat}, e ∈ ment xs k → ∃ j, ∃ h : j < xs.length, e = (xs[j].u, .pointer (some ⟨xs[j].g, 0, none⟩), k + j)
  | [], _, _, h => by simp [ment] at h
  | x :: r, k, e, h => by
    simp only [ment, List.mem_cons] at h
    rcases h with rfl | h
    · exact ⟨0, by simp, rfl⟩
    · obtain ⟨j, hj, rfl⟩ := ment_mem h
      exact ⟨j + 1, by simpa using hj, by simp; omega⟩
theorem ment_births : ∀ (xs : List Bx) (k : Nat), (ment xs k).map (·.2.2) = List.range' k xs.length
  | [], _ => rfl
  | x :: r, k => by simp [ment, ment_births r (k + 1), List.range'_succ]
theorem ment_eq : ∀ {xs ys : List Bx} (k : Nat), xs.map (fun x => (x.u, x.g)) = ys.map (fun x => (x.u, x.g)) → ment xs k = ment ys k
  | [], [], _, _ => rfl
  | [], _ :: _, _, h => by simp at h
  | _ :: _, [], _, h => by simp at h
  | x :: r, y :: s, k, h => by
    simp only [List.map_cons, List.cons.injEq, Prod.mk.injEq] at h
    simp only [ment, h.1.1, h.1.2, ment_eq (k + 1) h.2]
theorem split_at {α : Type} {l : List α} {j : Nat} (h : j < l.length) : l = l.take j ++ l[j] :: l.drop (j + 1) := by
  rw [← List.drop_eq_getElem_cons h, List.take_append_drop]
theorem filt_lt {p q : Nat → Bool} {n i : Nat} (hi : i < n) (hp : p i = true) (hq : q i = false) (h : ∀ k, q k = true → p k = true) : ((List.range n).filter q).length < ((List.range n).filter p).length := by
  have hs : ((List.range n).filter q).length ≤ ((List.range n).filter p).length := by
    have : (List.range n).filter q = ((List.range n).filter p).filter q := by
      rw [List.filter_filter]; congr 1; funext k
      cases hk : q k with
      | false => simp
      | true => simp [h k hk]
    rw [this]; exact List.length_filter_le _ _
  rcases Nat.lt_or_ge ((List.range n).filter q).length ((List.range n).filter p).length with h1 | h1
  · exact h1
  · exfalso
    have : (List.range n).filter q = ((List.range n).filter p).filter q := by
      rw [List.filter_filter]; congr 1; funext k
      cases hk : q k with
      | false => simp
      | true => simp [h k hk]
    have he : ((List.range n).filter p).filter q = (List.range n).filter p := List.filter_eq_self.2 (by
      have hl : (((List.range n).filter p).filter q).length = ((List.range n).filter p).length := by rw [← this]; omega
      exact List.length_filter_eq_length_iff.1 hl)
    have hm : i ∈ (List.range n).filter p := by simp [hi, hp]
    rw [← he] at hm
    simp [hq] at hm
structure Ex2 where
  ys : List Bx
  n : Nat
  seen : List Nat
structure Ex2.ok (s : Ex2) (now : Int) (xs : List Bx) : Prop where
  same : s.ys.map (fun x => x.young now) = xs.map fun x => x.young now
  done : ∀ i (h : i < s.ys.length), i ∈ s.seen → s.ys[i].young now = s.ys[i]
  n : s.n + olds now s.ys = olds now xs
  good : ∀ x ∈ s.ys, x.ok
theorem young_ok {x : Bx} {now : Int} (h : x.ok) : (x.young now).ok :=
  ⟨h.key, fun y hy => h.l y (List.mem_filter.1 hy).1, Nat.le_trans (List.length_filter_le _ _) h.len, Nat.le_trans (List.length_filter_le _ _) h.cap, h.next⟩
theorem expire_b (A : HProp) (g : Nat) (room : Int) (xs : List Bx) (now : Int) (hn : now ≥ 0 ∧ now ≤ 1099511627776) (hxl : xs.length ≤ 1000) :
    Con Tryd.prog 19 [.c (.rp g 0), .c (.int .i64 now)] [] [Bs g room xs] A (fun _ : Unit => True) (fun _ => .c (.int .i64 (olds now xs))) (fun _ => []) (fun _ => [Bs g room (xs.map fun x => x.young now)]) := by
  refine Con.box (Y := Nat) (Runs.of Tryd.func19 rfl (by decide)) ?_
  intro m hk
  have hold := olds_le now xs fun x hx => (hk.1 x hx).len
  refine Con.of' tt_ok Tryd.func19 rfl (by decide) [.c (.ptr 1000 0), .c (.int .i64 now)] [(1000, g)] [(1000, (bscel g m room).2)] rfl rfl (by repeat' (first | exact trivial | rfl | apply And.intro)) ⟨trivial, trivial, trivial⟩ rfl ?_
  conv => whnf
  intro b3
  conv => whnf
  refine CallOb.by' [1000] [] (goodB_c _ g m room) rfl ⟨rfl, rfl, rfl, fun _ _ => ⟨rfl, ?_⟩⟩
  conv => whnf
  refine CallOb.pu (clock_c _ now) rfl ?_
  conv => whnf
  refine Cond.not (Cond.mk (fun _ => ?_) (fun h => by rw [decide_eq_true hn.1, decide_eq_true hn.2] at h; cases h))
  conv => whnf
  refine rg_map (l := ment xs 0) (c := xs.length) (g := m) Tryd.underlying66 (by simp) fun r => ?_
  conv => whnf
  refine LoopOb.mk' (σ := Ex2) (fun s => [(0, .c (.ptr 1000 0)), (3, .c (.ptr 3 0)), (5, .c (.int .i64 s.n)), (21, .c (.rp r 0))])
    (fun s => ⟨[(3, b3), (1000, g)], [(3, [.one (.int .i64 now)], 3), (1000, (bscel g m room).2)], [Mit r m xs.length s.seen xs.length, Mp m (ment xs 0) xs.length, all (s.ys.map BxP), A]⟩) (fun s => s.ok now xs) (fun s => ((List.range xs.length).filter fun i => !s.seen.contains i).length) ⟨xs, 0, []⟩
    ⟨rfl, fun i _ h => by simp at h, by simp, hk.1⟩ (Wk.mk' [3, 1000] [0, 0, 0, 0] (by repeat' (first | exact trivial | rfl | apply And.intro)) (by repeat' (first | exact trivial | rfl | apply And.intro)) ⟨rfl, rfl⟩) ?_
  rintro ⟨ys, n, seen⟩ ⟨hsame, hdone, hn2, hgood⟩
  dsimp only at hsame hdone hn2 hgood ⊢
  have hyl : ys.length = xs.length := by have := congrArg List.length hsame; simpa using this
  have hug : xs.map (fun x => (x.u, x.g)) = ys.map (fun x => (x.u, x.g)) := by
    have := congrArg (List.map fun x : Bx => (x.u, x.g)) hsame
    simpa [List.map_map, Function.comp_def] using this.symm
  have hme := ment_eq 0 hug
  rw [hme]
  conv => whnf
  refine nx_map (l := ment ys 0) (c := xs.length) (F' := [Mp m (ment ys 0) xs.length, all (ys.map BxP), A]) (.refl _) (by simp) (fun e he => by obtain ⟨j, hj, rfl⟩ := ment_mem he; dsimp only; omega) (Nat.le_refl _) (fun e he => by obtain ⟨j, hj, rfl⟩ := ment_mem he; rfl) (fun hall => ?_) (fun e he hns => ?_)
  · conv => whnf
    have hys : ys = xs.map fun x => x.young now := by
      rw [← hsame]
      refine (List.map_id ys).symm.trans (List.map_congr_left fun y hy => ?_)
      obtain ⟨j, hj, rfl⟩ := List.getElem_of_mem hy
      refine (hdone j hj (hall (ys[j].u, .pointer (some ⟨ys[j].g, 0, none⟩), 0 + j) ?_ |> fun h => by simpa using h)).symm
      have hmj : ∀ (l : List Bx) (k j : Nat) (h : j < l.length), (l[j].u, (.pointer (some ⟨l[j].g, 0, none⟩) : Value), k + j) ∈ ment l k := by
        intro l
        induction l with
        | nil => intro k j h; simp at h
        | cons x r ih =>
          intro k j h
          cases j with
          | zero => simp [ment]
          | succ j => simp only [ment, List.getElem_cons_succ, List.mem_cons]; right; have := ih (k + 1) j (by simpa using h); rwa [show k + 1 + j = k + (j + 1) by omega] at this
      exact hmj ys 0 j hj
    have h0 : olds now ys = 0 := by
      have : ∀ l : List Bx, (∀ y ∈ l, y.young now = y) → olds now l = 0 := by
        intro l
        induction l with
        | nil => intro _; rfl
        | cons y l ih =>
          intro h
          show (y.l.length - (y.young now).l.length) + olds now l = 0
          rw [h y (by simp), ih fun z hz => h z (by simp [hz])]; omega
      refine this ys fun y hy => ?_
      rw [hys] at hy
      obtain ⟨x, _, rfl⟩ := List.mem_map.1 hy
      exact young_young x now
    have hnn : n = olds now xs := by omega
    subst hnn
    rw [← hys]
    have hl : ys.length = xs.length := hyl
    rw [← hl]
    exact Ret.mk' (m, ()) [1000] [1, 1, 1] ⟨⟨hgood, hk.2⟩, trivial⟩ rfl (by repeat' (first | exact trivial | rfl | apply And.intro)) (by repeat' (first | exact trivial | rfl | apply And.intro)) ⟨rfl, rfl⟩
  obtain ⟨j, hj, rfl⟩ := ment_mem he
  dsimp only at hns ⊢
  rw [Nat.zero_add] at hns ⊢
  have hsp := split_at hj
  have hyo := hgood _ (List.getElem_mem hj)
  have hd3 := hdone j hj
  have hlt := filt_lt (n := xs.length) (i := j) (p := fun i => !seen.contains i) (q := fun i => !(seen ++ [j]).contains i) (by omega) (by simpa using hns) (by simp) (fun k h => by simp at h ⊢; exact h.1)
  generalize hy : ys[j] = y at hsp hyo hd3 ⊢
  have hk32 := many_ok hyo.key
  conv => whnf
  refine en_map (l := ment ys 0) (c := xs.length) (g := m) (since := xs.length) (seen := seen) 1001 y.g (bcel y).2.1 (bcel y).2.2 (y.u, .pointer (some ⟨y.g, 0, none⟩), j) (F2 := [Mit r m xs.length (seen ++ [j]) xs.length, Mp m (ment ys 0) xs.length, brow y, owbs y.l, all ((ys.take j ++ ys.drop (j + 1)).map BxP), A])
    (by simp) (by simp) (by rw [← hy]; simpa using he) (by rw [ment_births]; exact List.nodup_range') rfl trivial ⟨hk32 _, trivial, trivial, trivial⟩ (fun h s => by
      rw [hsp] at s
      have := box_iff (l₁ := [Mit r m xs.length (seen ++ [j]) xs.length, Mp m (ment (ys.take j ++ y :: ys.drop (j + 1)) 0) xs.length]) (r := [A]) |>.1 s
      rw [← hsp] at this; exact this) ?_
  conv => whnf
  refine CallOb.by' [] [2] (deleteL_c _ 46 b3 _ (tells_since (c := b3) hn (Ent.all (by first | (simp; done) | (simp [M.props]; done) | (simp [M.props]; first | (left; rfl) | (right; left; rfl) | (right; right; left; rfl) | (right; right; right; left; rfl) | (right; right; right; right; left; rfl)) | exact (.head _ : List.Mem _ _) | exact (.tail _ (.head _) : List.Mem _ _) | exact (.tail _ (.tail _ (.head _)) : List.Mem _ _) | exact (.tail _ (.tail _ (.tail _ (.head _))) : List.Mem _ _) | exact (.tail _ (.tail _ (.tail _ (.tail _ (.head _)))) : List.Mem _ _) | exact (.tail _ (.tail _ (.tail _ (.tail _ (.tail _ (.head _))))) : List.Mem _ _) | exact (.tail _ (.tail _ (.tail _ (.tail _ (.tail _ (.tail _ (.head _)))))) : List.Mem _ _) | exact (.tail _ (.tail _ (.tail _ (.tail _ (.tail _ (.tail _ (.tail _ (.head _))))))) : List.Mem _ _) | exact (.tail _ (.tail _ (.tail _ (.tail _ (.tail _ (.tail _ (.tail _ (.tail _ (.head _)))))))) : List.Mem _ _)))) y.a y.cap y.l hyo.l.A (by have := hyo.len; omega) hyo.cap) rfl ⟨rfl, rfl, rfl, fun _ _ => ⟨rfl, ?_⟩⟩
  have hle := young_le y now
  have hcnt : olds now ys = (y.l.length - (y.young now).l.length) + olds now (ys.set j (y.young now)) := by
    have e1 : ys.set j (y.young now) = ys.take j ++ (y.young now) :: ys.drop (j + 1) := by rw [List.set_eq_take_append_cons_drop, if_pos hj]
    have e0 : olds now ys = olds now (ys.take j ++ y :: ys.drop (j + 1)) := by rw [← hsp]
    have ec : ∀ (x : Bx) (r : List Bx), olds now (x :: r) = (x.l.length - (x.young now).l.length) + olds now r := fun _ _ => rfl
    rw [e1, e0, olds_append, olds_append, ec, ec, young_young]
    omega
  have hyl2 := hyo.len
  conv => whnf
  refine Ar.i64 (by dsimp only at hle; omega) ?_
  conv => whnf
  refine Ar.i64 (by dsimp only at hle; omega) ?_
  conv => whnf
  have hsset : ys.set j (y.young now) = ys.take j ++ (y.young now) :: ys.drop (j + 1) := by rw [List.set_eq_take_append_cons_drop, if_pos hj]
  refine ⟨⟨ys.set j (y.young now), n + (y.l.length - (y.young now).l.length), seen ++ [j]⟩, ⟨?_, ?_, by show n + (y.l.length - (y.young now).l.length) + olds now (ys.set j (y.young now)) = olds now xs; omega, ?_⟩, hlt, ?_⟩
  · rw [List.map_set, young_young, ← hsame]
    rw [← hy, ← List.getElem_map (f := fun x : Bx => x.young now) (h := by rw [List.length_map]; exact hj), List.set_getElem_self]
  · intro i hi hs
    dsimp only at hi hs ⊢
    rw [List.length_set] at hi
    rw [List.getElem_set]
    split
    · exact young_young y now
    · rename_i hne
      refine hdone i hi ?_
      rcases List.mem_append.1 hs with hs | hs
      · exact hs
      · exact absurd (List.mem_singleton.1 hs).symm hne
  · intro x hx
    rcases List.mem_or_eq_of_mem_set hx with hx | rfl
    · exact hgood x hx
    · exact young_ok hyo
  rw [hsset]
  refine Wk.turn (fun _ s => owbs_less (q := fun y => !decide (y.since ≤ now - 256)) (l₁ := [Own y.a y.cap 79 14 (rowL (y.young now).l), Mit r m xs.length (seen ++ [j]) xs.length, Mp m (ment ys 0) xs.length]) s) ?_
  refine Wk.grp [1001] [0, 2] ?_
  refine Wk.turn (F' := [Mit r m xs.length (seen ++ [j]) xs.length, Mp m (ment ys 0) xs.length, all ((ys.take j ++ (y.young now) :: ys.drop (j + 1)).map BxP), A]) (fun _ s => ?_) ?_
  · have s1 := seps_all.1 s
    exact (box_iff (y := y.young now) (l₁ := [Mit r m xs.length (seen ++ [j]) xs.length, Mp m (ment ys 0) xs.length]) (r := [A])).2 (seps_perm (by
      refine List.Perm.cons _ ?_
      exact (List.perm_append_comm (l₁ := [brow (y.young now), owbs (y.young now).l]) (l₂ := [Mit r m xs.length (seen ++ [j]) xs.length, Mp m (ment ys 0) xs.length])).append_right [all ((ys.take j ++ ys.drop (j + 1)).map BxP), A]) s1)
  refine Wk.mk' [3, 1000] [0, 0, 0, 0] ⟨⟨rfl, trivial⟩, ⟨rfl, trivial⟩, ⟨?_, trivial⟩, ⟨rfl, trivial⟩, trivial⟩ (by repeat' (first | exact trivial | rfl | apply And.intro)) ⟨rfl, rfl⟩
  show Value.int .i64 _ = Value.int .i64 _
  congr 1
  dsimp only at hle ⊢
  omega
end Go.Proofs.YtiimeklgjoclpaaDoor
