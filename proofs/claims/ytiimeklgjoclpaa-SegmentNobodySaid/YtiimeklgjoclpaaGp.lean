/- Tables of messages: a piece is taken, walked. -/
import Derived.Test.YtiimeklgjoclpaaGo
namespace Go.Proofs.Ytiimeklgjoclpaa
open Go.Sx
set_option maxRecDepth 100000
set_option pp.deepTerms false
set_option pp.maxSteps 300
set_option linter.unusedSimpArgs false
set_option linter.unusedVariables false

/-- A message, without its places. -/
structure Ab where
  u : Int
  n : Int
  since : Int
  left : Int
  ps : List (Option (List UInt8))
def Mg.ab (y : Mg) : Ab := ⟨y.u, y.n, y.since, y.left, y.ss.map (·.b)⟩
def finA (L : List Ab) (i : Nat) (a : Ab) (c : Pc) : List Ab × List UInt8 × Bool × Int :=
  if a.left - 1 > 0 then (L.set i { a with ps := a.ps.set c.i.toNat (some c.b), left := a.left - 1 }, [], false, 0)
  else (L.eraseIdx i, ((a.ps.set c.i.toNat (some c.b)).map (·.getD [])).flatten, true, 0)
def tkA (room now : Int) (c : Pc) (L : List Ab) : List Ab × List UInt8 × Bool × Int :=
  if c.may = true ∧ c.k = 1 ∧ 0 ≤ now ∧ now ≤ 1099511627776 then
    match L.findIdx? (fun a => decide (a.u = c.u ∧ a.n = c.n)) with
    | none => if (L.length : Int) ≥ room then (L, [], false, 8) else finA (L ++ [⟨c.u, c.n, now, c.t, List.replicate c.t.toNat none⟩]) L.length ⟨c.u, c.n, now, c.t, List.replicate c.t.toNat none⟩ c
    | some i => match L[i]? with
      | none => (L, [], false, 2)
      | some a => if (a.ps.length : Int) ≠ c.t then (L, [], false, 5) else if (a.ps[c.i.toNat]?.getD none).isSome then (L, [], false, 10) else finA L i a c
  else (L, [], false, 2)
/-- What is so of a message's places. -/
structure Mg.good (y : Mg) : Prop where
  nm : NmOk y.u y.n
  nil : ∀ s ∈ y.ss, s.b = none → s.x = (none, 0)
  full : ∀ s ∈ y.ss, ∀ l, s.b = some l → s.x.1 ≠ none ∧ Fc s.x.1 s.x.2 l ∧ l.length ≤ 240
  left : 0 ≤ y.left ∧ y.left ≤ 8
  ss : y.ss.length ≤ 8 ∧ Fc y.a.1 y.a.2 y.ss
def goods (l : List Mg) : Prop := ∀ y ∈ l, y.good
theorem goods.ok {l : List Mg} (h : goods l) : okMs l := fun y hy => (h y hy).nm

theorem take2_c (A : HProp) (c : Nat) (l : List Mg) (y0 : Mg) (h0 : y0 ∈ l) (E1 : Ent A (Cel.p (c, [.one (.rp y0.h 0)], 97))) (E2 : ∀ y ∈ l, Ent A (Cel.p y.cel)) :
    TellsM A 47 c (fun y => decide (y.h = y0.h)) l := by
  intro A' e y hy
  refine Con.of' tt_ok Try.func47 rfl (by decide) [.c (.rp y.h 0), .c (.rp c 0)] [] [] rfl rfl trivial (by repeat' (first | exact trivial | rfl | apply And.intro)) rfl ?_
  have r2 : Rd A' (some (radr (c, 0))) [ptr y0.h] := rd_one (e.trans E1)
  conv => whnf
  refine ld (A := A') 0 (.rp y0.h 0) rfl (by simp) r2 rfl rfl rfl trivial ?_
  conv => whnf
  obtain ⟨i, hi, hi0⟩ := mg_info
  refine ⟨decide (y.h = y0.h), ?_, fun km w hs => pe_cells Try.underlying97 hi hi0 (heap_ent (A := A') (by simp) (e.trans (E2 y hy)) hs) (heap_ent (A := A') (by simp) (e.trans (E2 y0 h0)) hs)⟩
  conv => whnf
  exact Ret.mk' () [] [0] trivial rfl (by repeat' (first | exact trivial | rfl | apply And.intro)) (by repeat' (first | exact trivial | rfl | apply And.intro)) ⟨rfl, rfl⟩
theorem erase_snoc {α : Type} {x : α} : ∀ {l : List α} {n : Nat}, n = l.length → (l ++ [x]).eraseIdx n = l
  | [], _, h => by subst h; rfl
  | y :: r, _, h => by subst h; simp [erase_snoc (l := r) rfl]
theorem blk_ne {b c : Nat} {o o' : Obj} {R : HProp} {h : Hp} (s : seps [blk b o, R] h) (E : Ent R (blk c o')) : c ≠ b := by
  rintro rfl
  obtain ⟨g, k, d, hg, hk, hp, g2, k2, d2, hg2, hk2, hp2, hs⟩ := s
  obtain ⟨g3, hg3, hb⟩ := E g2 hp2
  have e1 : g c = some o := hp
  have e2 : k c = some o' := hg2.out _ _ (hg3.out _ _ hb)
  rcases d.out c with e | e
  · rw [e1] at e; cases e
  · rw [e2] at e; cases e
theorem mem_set_erase {α : Type} : ∀ {l : List α} {i : Nat} {x y : α}, i < l.length → y ∈ l.set i x → y = x ∨ y ∈ l.eraseIdx i
  | [], _, _, _, h, _ => absurd h (by simp)
  | a :: r, 0, x, y, _, h => by simpa using h
  | a :: r, i + 1, x, y, hi, h => by
    rcases List.mem_cons.1 h with h | h
    · exact .inr (by rw [List.eraseIdx_cons_succ, h]; exact List.mem_cons_self)
    · rcases mem_set_erase (l := r) (by simpa using hi) h with h | h
      · exact .inl h
      · exact .inr (List.mem_cons_of_mem _ h)
theorem filter_set {α : Type} {p : α → Bool} : ∀ {l : List α} {i : Nat} {x : α}, i < l.length → p x = false → (∀ y ∈ l.eraseIdx i, p y = true) → (l.set i x).filter p = l.eraseIdx i
  | [], _, _, h, _, _ => absurd h (by simp)
  | a :: r, 0, x, _, hx, h => by
    rw [List.set_cons_zero, List.filter_cons_of_neg (by simp [hx]), List.eraseIdx_cons_zero, List.filter_eq_self]
    exact h
  | a :: r, i + 1, x, hi, hx, h => by
    rw [List.eraseIdx_cons_succ] at h ⊢
    rw [List.set_cons_succ, List.filter_cons_of_pos (h a List.mem_cons_self), filter_set (l := r) (by simpa using hi) hx fun y hy => h y (List.mem_cons_of_mem _ hy)]
theorem slices_le {k : Nat} : ∀ {ss : List Sl}, (∀ s ∈ ss, s.l.length ≤ k) → (slices ss).length ≤ ss.length * k
  | [], _ => by simp [slices]
  | s :: r, h => by
    have h1 := slices_le (ss := r) fun t ht => h t (List.mem_cons_of_mem _ ht)
    have h2 := h s List.mem_cons_self
    unfold slices at h1 ⊢
    rw [List.map_cons, List.flatten_cons, List.length_append, List.length_cons, Nat.succ_mul]
    omega
theorem stake_c (A R : HProp) (hE : Ent A R) (g : Nat) (room now : Int) (hr : 1 ≤ room ∧ room ≤ 64) (l : List Mg) (hl : goods l) (hlen : (l.length : Int) ≤ room) (c : Pc) (x y : AC) (hw : c.wf) (hb : Bts R x.1 x.2 c.b) :
    Con Try.prog 23 [.c (.rp g 0), .c (.int .i64 now), .agg (c.sg x y)] [] [Tb g room l] A
      (fun t : List Mg × AC => goods t.1 ∧ t.1.map Mg.ab = (tkA room now c (l.map Mg.ab)).1 ∧ Fc t.2.1 t.2.2 (tkA room now c (l.map Mg.ab)).2.1)
      (fun t => .tup [.c (.rs t.2.1 (tkA room now c (l.map Mg.ab)).2.1.length t.2.2), .c (.bool (tkA room now c (l.map Mg.ab)).2.2.1), .c (.int .i64 (tkA room now c (l.map Mg.ab)).2.2.2)]) (fun _ => [])
      (fun t => [Tb g room t.1, Own t.2.1 t.2.2 5 1 (u8s (tkA room now c (l.map Mg.ab)).2.1)]) := by
  refine Con.box (k' := fun (t : List Mg × AC) (a : AC) => Fc a.1 a.2 t.1) (Q' := fun (t : List Mg × AC) (a : AC) => [tc g room t.1 a]) (R' := fun (t : List Mg × AC) (a : AC) => tr t.1 a) (Runs.of Try.func23 rfl (by decide)) ?_
  rintro ⟨a, cap⟩ hk
  have hN : NmOk c.u c.n := ⟨hw.u, hw.n⟩
  refine Con.of' tt_ok Try.func23 rfl (by decide) [.c (.ptr 1000 0), .c (.int .i64 now), .agg (c.sg x y)] (B1 g) [(1000, (tc 0 room l (a, cap)).2)] rfl rfl (by repeat' (first | exact trivial | rfl | apply And.intro)) (by repeat' (first | exact trivial | rfl | exact hk _ | apply And.intro)) rfl ?_
  conv => whnf
  intro b5
  conv => whnf
  refine CallOb.by' [1000] [] (tgood_c _ g room l (a, cap)) rfl ⟨rfl, rfl, rfl, fun _ _ => ⟨rfl, ?_⟩⟩
  rw [decide_eq_true (show room > 0 by omega)]
  conv => whnf
  refine Cond.not (Cond.mk (fun h => ?_) (fun h => by cases h))
  conv => whnf
  refine CallOb.pu (smay_c _ c x y) rfl ?_
  have bad : ¬ (c.may = true ∧ c.k = 1 ∧ 0 ≤ now ∧ now ≤ 1099511627776) → tkA room now c (l.map Mg.ab) = (l.map Mg.ab, [], false, 2) := fun h => if_neg h
  conv => whnf
  refine Cond.not (Cond.mk (fun hm => ?_) (fun hm => ?_))
  case refine_2 =>
    rw [bad (fun h => by rw [hm] at h; cases h.1)]
    conv => whnf
    refine Ret.own0 5 1 ?_
    exact Ret.mk' ((a, cap), (l, (none, 0))) [1000] [1, 1, 0, 0] ⟨hk, hl, rfl, .nil⟩ rfl (by repeat' (first | exact trivial | rfl | apply And.intro)) (by repeat' (first | exact trivial | rfl | apply And.intro)) ⟨rfl, rfl⟩
  conv => whnf
  refine Cond.neI (fun h1 => ?_) (fun h1 => ?_)
  · rw [bad (fun h => h1 h.2.1)]
    conv => whnf
    refine Ret.own0 5 1 ?_
    exact Ret.mk' ((a, cap), (l, (none, 0))) [1000] [1, 1, 0, 0] ⟨hk, hl, rfl, .nil⟩ rfl (by repeat' (first | exact trivial | rfl | apply And.intro)) (by repeat' (first | exact trivial | rfl | apply And.intro)) ⟨rfl, rfl⟩
  conv => whnf
  refine CallOb.pu (clock_c _ now) rfl ?_
  conv => whnf
  refine Cond.not (Cond.mk (fun hc => ?_) (fun hc => ?_))
  case refine_2 =>
    rw [bad (fun h => by simp at hc; omega)]
    conv => whnf
    refine Ret.own0 5 1 ?_
    exact Ret.mk' ((a, cap), (l, (none, 0))) [1000] [1, 1, 0, 0] ⟨hk, hl, rfl, .nil⟩ rfl (by repeat' (first | exact trivial | rfl | apply And.intro)) (by repeat' (first | exact trivial | rfl | apply And.intro)) ⟨rfl, rfl⟩
  have hc : 0 ≤ now ∧ now ≤ 1099511627776 := by simp at hc; omega
  have hok : c.may = true ∧ c.k = 1 ∧ 0 ≤ now ∧ now ≤ 1099511627776 := ⟨hm, h1, hc.1, hc.2⟩
  have hle := Pc.may_le hm
  conv => whnf
  intro b9
  conv => whnf
  have hfi : (l.map Mg.ab).findIdx? (fun a => decide (a.u = c.u ∧ a.n = c.n)) = l.findIdx? (nameQ c.u c.n) := by
    rw [List.findIdx?_map]; rfl
  cases hf : l.findIdx? (nameQ c.u c.n) with
  | none =>
    refine CallOb.by' [1000] [0, 0] (sfind_n _ g room c.u c.n hN l hl.ok (by omega) (a, cap) hf) rfl ⟨rfl, rfl, rfl, fun _ _ => ⟨rfl, ?_⟩⟩
    conv => whnf
    intro b10
    conv => whnf
    refine Draw.till (by kernel_rfl) tt_ok (Tr.of (List.range 15) .nil) 1000000 (by kernel_rfl) ?_
    conv => whnf
    have et : tkA room now c (l.map Mg.ab) = if ((l.map Mg.ab).length : Int) ≥ room then (l.map Mg.ab, [], false, 8) else finA (l.map Mg.ab ++ [⟨c.u, c.n, now, c.t, List.replicate c.t.toNat none⟩]) (l.map Mg.ab).length ⟨c.u, c.n, now, c.t, List.replicate c.t.toNat none⟩ c := by
      unfold tkA; rw [if_pos hok, hfi, hf]
    refine Cond.dec (fun hfull => ?_) (fun hfull => ?_)
    · rw [et, if_pos (by rw [List.length_map]; exact hfull)]
      conv => whnf
      refine Ret.own0 5 1 ?_
      exact Ret.mk' ((a, cap), (l, (none, 0))) [1000] [1, 1, 0, 0] ⟨hk, hl, rfl, .nil⟩ rfl (by repeat' (first | exact trivial | rfl | apply And.intro)) (by repeat' (first | exact trivial | rfl | apply And.intro)) ⟨rfl, rfl⟩
    rw [et, if_neg (by rw [List.length_map]; exact hfull)]
    obtain ⟨T, hT⟩ : ∃ T : Nat, c.t = T := ⟨c.t.toNat, by omega⟩
    conv => whnf
    refine Draw.till (by kernel_rfl) tt_ok (Tr.of [0, 1, 2, 3, 5, 6, 4, 7, 8, 9] .nil) 9 (by kernel_rfl) ?_
    conv => whnf
    refine ⟨⟨by omega, by omega, by omega, (by show ((24 : Nat) : Int) * c.t ≤ 140737488355328; omega)⟩, ?_⟩
    intro b59
    refine Sub.parts [10, 1000, 9, 5] [0, 0, 0] ⟨rfl, rfl⟩ ?_
    conv => whnf
    intro b63
    refine Sub.parts [10, 1000, 9, 5] [0, 0, 0] ⟨rfl, rfl⟩ ?_
    conv => whnf
    refine Draw.part (by kernel_rfl) tt_ok (Tr.up 11) 10 _ [] (by kernel_rfl) (fun k => k) (Sub.parts [63, 59, 10, 1000, 9, 5] [] ⟨rfl, rfl⟩ ?_)
    conv => whnf
    intro b70
    refine Sub.parts [63, 59, 10, 1000, 9, 5] [] ⟨rfl, rfl⟩ ?_
    conv => whnf
    refine append_own (a := a) (n := l.length) (cap := cap) (xs := rowM l) (k := 1) (ys := [ptr b63]) (F' := [all (l.map MgP), A]) (.refl _) (rowM_len l) rfl (Src.slc (by exact ⟨[], rfl⟩)) (by intro v hv; simp at hv; subst hv; rfl)
      (by show (l.length + 1 + (l.length + 1) / 4 + 192) * 8 ≤ 281474976710656; omega) (by omega) (by decide) 69 (.inr rfl) ?_
    intro a' cap' hc' hn'
    refine Sub.parts [63, 59, 10, 1000, 9, 5] [] ⟨rfl, rfl⟩ ?_
    conv => whnf
    refine Draw.part (by kernel_rfl) tt_ok (Tr.of [0, 1, 2, 3, 4, 5, 7, 8, 6, 9, 10, 11] .nil) 11 _ [] (by kernel_rfl) (fun k => k) (Sub.parts [70, 63, 59, 10, 1000, 9, 5] [] ⟨rfl, rfl⟩ ?_)
    conv => whnf
    intro b99
    refine Sub.parts [70, 63, 59, 10, 1000, 9, 5] [] ⟨rfl, rfl⟩ ?_
    conv => whnf
    refine With.own (i := 99) (n := 0) (cap := 0) (size := 1) ⟨_, _, rfl, ⟨rfl, Nat.le_refl _⟩, ?_⟩
    refine appb2 (l := []) (m := c.b) (.refl _) (Src.rs (A := A) (by simp) (hb.1.ent hE)) rfl rfl (by decide) (by simp; omega) 23 (.inr rfl) fun a1 c1 hc1 hn1 => ?_
    rw [List.nil_append] at hc1 ⊢
    refine Sub.parts [70, 63, 59, 10, 1000, 9, 5] [] ⟨rfl, rfl⟩ ?_
    conv => whnf
    have hi0 : 0 ≤ c.i ∧ c.i < c.t := by
      have h2 : c.placed = true := by
        have := hm
        unfold Pc.may at this
        rw [if_pos h1] at this
        simp at this
        exact this.2.1.1
      have := Pc.placed_le h2; omega
    refine ⟨by omega, ?_⟩
    conv => whnf
    refine ⟨⟨rfl, by show c.i.toNat * 1 + 1 ≤ c.t.toNat; omega⟩, ?_⟩
    conv => whnf
    refine Ar.i64 (by omega) ?_
    conv => whnf
    have hii : c.i.toNat < c.t.toNat := by omega
    have hne1 : a1 ≠ none := fun e => by have := hn1 e; cases this
    obtain ⟨ss, hss⟩ : ∃ ss : List Sl, ss = (List.replicate c.t.toNat (⟨none, (none, 0)⟩ : Sl)).set c.i.toNat ⟨some c.b, (a1, c1)⟩ := ⟨_, rfl⟩
    have hsl : ss.length = c.t.toNat := by rw [hss]; simp
    have hsv : ss.map Sl.v = (List.replicate c.t.toNat (Value.slice none 0 0)).take (c.i.toNat * 1) ++ ([Value.slice a1 c.b.length c1] ++ (List.replicate c.t.toNat (Value.slice none 0 0)).drop (c.i.toNat * 1 + 1)) := by
      rw [hss, List.map_set, List.map_replicate, List.set_eq_take_append_cons_drop, if_pos (by simpa using hii), Nat.mul_one]; rfl
    obtain ⟨px, hpx⟩ : ∃ px : Mg, px = ⟨b63, c.u, c.n, now, c.t - 1, ss, (some (radr (b59, 0)), c.t.toNat)⟩ := ⟨_, rfl⟩
    refine Cond.dec (fun hleft => ?_) (fun hleft => ?_)
    · conv => whnf
      refine Ret.own 59 c.t.toNat c.t.toNat 1 ⟨_, _, rfl, ⟨(by show 0 + c.t.toNat = c.t.toNat * 1; omega), Nat.le_refl _⟩, ⟨⟨?_, ?_⟩, trivial⟩, ?_⟩
      · show ((List.replicate c.t.toNat (Value.slice none 0 0)).take (c.i.toNat * 1) ++ ([Value.slice a1 c.b.length c1] ++ (List.replicate c.t.toNat (Value.slice none 0 0)).drop (c.i.toNat * 1 + 1))).length = c.t.toNat
        rw [← hsv, List.length_map, hsl]
      · show ∀ v ∈ (List.replicate c.t.toNat (Value.slice none 0 0)).take (c.i.toNat * 1) ++ ([Value.slice a1 c.b.length c1] ++ (List.replicate c.t.toNat (Value.slice none 0 0)).drop (c.i.toNat * 1 + 1)), v.oneCell' = true
        rw [← hsv]
        intro v hv
        obtain ⟨s, _, rfl⟩ := List.mem_map.1 hv
        rfl
      refine Ret.grp [63] [] ?_
      refine Ret.turn (F' := [Own a' cap' 97 1 (rowM (l ++ [px])), all ((l ++ [px]).map MgP), Own none 0 5 1 (u8s []), A]) (fun g s => ?_) ?_
      · have e59 : List.take (c.t.toNat * 1) (((List.replicate c.t.toNat (Value.slice none 0 0)).take (c.i.toNat * 1) ++ ([Value.slice a1 c.b.length c1] ++ (List.replicate c.t.toNat (Value.slice none 0 0)).drop (c.i.toNat * 1 + 1))) ++ []) = ss.map Sl.v := by
          rw [List.append_nil, ← hsv, List.take_of_length_le (by rw [List.length_map, hsl]; omega)]
        have hcel : Cel.p px.cel = blk b63 (.cells [Value.int .i64 c.u, .int .u32 c.n, .int .i64 now, .slice (some (radr (b59, 0))) c.t.toNat c.t.toNat, .int .i64 (c.t - 1)].toArray 101) := by
          rw [hpx, ← hsl]; rfl
        have s0 : seps (all [blk b63 (.cells [Value.int .i64 c.u, .int .u32 c.n, .int .i64 now, .slice (some (radr (b59, 0))) c.t.toNat c.t.toNat, .int .i64 (c.t - 1)].toArray 101)] :: Own (some (radr (b59, 0))) c.t.toNat 23 1 (List.take (c.t.toNat * 1) (((List.replicate c.t.toNat (Value.slice none 0 0)).take (c.i.toNat * 1) ++ ([Value.slice a1 c.b.length c1] ++ (List.replicate c.t.toNat (Value.slice none 0 0)).drop (c.i.toNat * 1 + 1))) ++ [])) :: Own a1 c1 5 1 (u8s c.b) :: Own a' cap' 97 1 (rowM l ++ [ptr b63]) :: all (l.map MgP) :: [A]) g := s
        rw [e59, ← hcel] at s0
        have s1 : seps [Cel.p px.cel, Own (some (radr (b59, 0))) c.t.toNat 23 1 (ss.map Sl.v), Own a1 c1 5 1 (u8s c.b), Own a' cap' 97 1 (rowM l ++ [ptr b63]), all (l.map MgP), A] g := seps_all.1 s0
        obtain ⟨g1, k1, d1, h11, h12, hp1, hs1⟩ := (seps_front (l := [_, _, _])).1 s1
        have s3 : seps [slP ⟨some c.b, (a1, c1)⟩, Cel.p px.cel, Own (some (radr (b59, 0))) c.t.toNat 23 1 (ss.map Sl.v), all (l.map MgP), A] k1 := (seps_front (l := [_, _])).1 hs1
        obtain ⟨g2, k2, d2, h21, h22, hp2, hs2⟩ := s3
        have s4 := sl_set (s := ⟨some c.b, (a1, c1)⟩) (ss := List.replicate c.t.toNat (⟨none, (none, 0)⟩ : Sl)) (i := c.i.toNat) (by simpa using hii) (by simp) (F := [Cel.p px.cel, Own (some (radr (b59, 0))) c.t.toNat 23 1 (ss.map Sl.v), all (l.map MgP), A]) (g := k1) ⟨g2, k2, d2, h21, h22, hp2, sl_nil (none, 0) c.t.toNat hs2⟩
        rw [← hss] at s4
        have s5 : seps ([Cel.p px.cel, Own (some (radr (b59, 0))) c.t.toNat 23 1 (ss.map Sl.v)] ++ all (ss.map slP) :: [all (l.map MgP), A]) k1 := seps_front.2 s4
        have s6 : seps (MgP px :: all (l.map MgP) :: [A]) k1 := seps_opn.2 (by rw [hpx] at s5 ⊢; exact s5)
        obtain ⟨g3, k3, d3, h31, h32, hp3, hs3⟩ := mgs_snoc s6
        have er : rowM (l ++ [px]) = rowM l ++ [ptr b63] := by unfold rowM; rw [List.map_append, hpx]; rfl
        rw [er]
        exact ⟨g1, k1, d1, h11, h12, hp1, g3, k3, d3, h31, h32, hp3, seps_own0 hs3⟩
      have hab : px.ab = ⟨c.u, c.n, now, c.t - 1, (List.replicate c.t.toNat none).set c.i.toNat (some c.b)⟩ := by
        rw [hpx]
        show Ab.mk c.u c.n now (c.t - 1) (ss.map (·.b)) = _
        rw [hss, List.map_set, List.map_replicate]
      have efin : finA (l.map Mg.ab ++ [⟨c.u, c.n, now, c.t, List.replicate c.t.toNat none⟩]) (l.map Mg.ab).length ⟨c.u, c.n, now, c.t, List.replicate c.t.toNat none⟩ c = ((l ++ [px]).map Mg.ab, [], false, 0) := by
        unfold finA
        rw [if_pos hleft, List.set_append_right _ _ (Nat.le_refl _), Nat.sub_self, List.set_cons_zero, List.map_append, List.map_cons, List.map_nil, hab]
      have hgp : goods (l ++ [px]) := by
        intro q hq
        rcases List.mem_append.1 hq with hq | hq
        · exact hl q hq
        · rw [List.mem_singleton.1 hq, hpx]
          refine ⟨hN, fun s hs hn => ?_, fun s hs z hz => ?_, ⟨by dsimp only; omega, by dsimp only; omega⟩, ⟨by show ss.length ≤ 8; rw [hsl]; omega, ⟨by rw [← hsl]; exact Nat.le_refl _, fun e => by cases e⟩⟩⟩
          · have hs : s ∈ ss := hs
            rw [hss] at hs
            rcases List.mem_or_eq_of_mem_set hs with hs | hs
            · rw [(List.mem_replicate.1 hs).2]
            · rw [hs] at hn; cases hn
          · have hs : s ∈ ss := hs
            rw [hss] at hs
            rcases List.mem_or_eq_of_mem_set hs with hs | hs
            · rw [(List.mem_replicate.1 hs).2] at hz; cases hz
            · rw [hs] at hz ⊢
              cases hz
              exact ⟨hne1, hc1, by omega⟩
      have elen : l.length + 1 = (l ++ [px]).length := by simp
      rw [efin, elen]
      exact Ret.mk' ((a', cap'), (l ++ [px], (none, 0))) [1000] [0, 0, 0, 0] ⟨⟨by rw [← elen]; exact hc', fun e => by have := hn' e; omega⟩, hgp, rfl, .nil⟩ rfl (by repeat' (first | exact trivial | rfl | apply And.intro)) (by repeat' (first | exact trivial | rfl | apply And.intro)) ⟨rfl, rfl⟩
    · have hT1 : c.t = 1 := by omega
      have hT0 : c.t.toNat = 1 := by omega
      conv => whnf
      have hcel : Cel.p px.cel = blk b63 (.cells [Value.int .i64 c.u, .int .u32 c.n, .int .i64 now, .slice (some (radr (b59, 0))) c.t.toNat c.t.toNat, .int .i64 (c.t - 1)].toArray 101) := by
        rw [hpx, ← hsl]; rfl
      have elen : l.length + 1 = (l ++ [px]).length := by simp
      have er : rowM (l ++ [px]) = rowM l ++ [ptr b63] := by unfold rowM; rw [List.map_append, hpx]; rfl
      have hph : px.h = b63 := by rw [hpx]
      rw [elen, ← er]
      refine CallOb.know (p := ∀ y ∈ l, y.h ≠ b63) (Runs.of Try.func46 rfl (by decide)) (fun w hs y hy => ?_) fun hne => ?_
      · have s1 : sat ([Cel.p px.cel] ++ [all (l.map MgP)]) w := by
          refine Parts.sat (cs := [63]) (fi := [2]) ?_ hs
          exact ⟨by rw [hcel]; rfl, rfl⟩
        rw [hcel] at s1
        exact blk_ne s1 ((Ent.all (List.mem_map.2 ⟨y, hy, rfl⟩)).trans (Ent.at 0 rfl))
      have hdel := fun A => deleteM_c A 47 b10 (fun y => decide (y.h = px.h)) a' cap' (l ++ [px])
      refine CallOb.by' [] [1] (hdel _ (take2_c _ b10 (l ++ [px]) px (by simp) (Ent.at 3 (by rw [hph]; rfl)) (fun y hy => ?_)) (by rw [← elen]; omega) (by rw [← elen]; exact hc')) rfl ⟨rfl, rfl, rfl, fun _ _ => ⟨rfl, ?_⟩⟩
      · rcases List.mem_append.1 hy with hy | hy
        · exact (ent_mg (Ent.at 8 rfl) hy).trans (Ent.at 0 rfl)
        · rw [List.mem_singleton.1 hy, hcel]; exact Ent.at 1 rfl
      have hf2 : (l ++ [px]).filter (fun y => !decide (y.h = px.h)) = l := by
        rw [List.filter_append, List.filter_cons_of_neg (by simp), List.filter_nil, List.append_nil, List.filter_eq_self]
        intro y hy
        have := hne y hy
        rw [hph]; simpa using this
      rw [hf2]
      conv => whnf
      have hsm : ∀ s ∈ ss, s = ⟨none, (none, 0)⟩ ∨ s = ⟨some c.b, (a1, c1)⟩ := by
        intro s hs
        rw [hss] at hs
        rcases List.mem_or_eq_of_mem_set hs with hs | hs
        · exact .inl (List.mem_replicate.1 hs).2
        · exact .inr hs
      have hs1 : ss = [⟨some c.b, (a1, c1)⟩] := by
        have e0 : c.i.toNat = 0 := by omega
        rw [hss, hT0, e0]; rfl
      have hsle : slices ss = c.b := by rw [hs1]; simp [slices, Sl.l]
      refine CallOb.fb (concat_c _ (some (radr (b59, 0)), c.t.toNat) ss ?_ ?_ (by rw [hsle]; omega) (by rw [hsl]; omega)) (by rw [hsl]; rfl) fun a2 c2 hc2 => ?_
      · rw [hsv]; exact Rd.ent (Ent.at 2 rfl) rd_many
      · intro s hs
        rcases hsm s hs with rfl | rfl
        · exact ⟨fun h _ => .inl rfl, Nat.le_refl _, fun _ => rfl⟩
        · exact ⟨Rd.ent (Ent.at 8 rfl) Own.rd, hc1.1, hc1.2⟩
      have efin : finA (l.map Mg.ab ++ [⟨c.u, c.n, now, c.t, List.replicate c.t.toNat none⟩]) (l.map Mg.ab).length ⟨c.u, c.n, now, c.t, List.replicate c.t.toNat none⟩ c = (l.map Mg.ab, slices ss, true, 0) := by
        unfold finA
        rw [if_neg hleft]
        have e0 : c.i.toNat = 0 := by omega
        rw [hsle, hT0, e0]
        simp [erase_snoc]
      rw [efin]
      conv => whnf
      exact Ret.mk' ((a', cap'), (l, (a2, c2))) [1000] [1, 2, 0, 1] ⟨⟨(by show l.length ≤ cap'; omega), fun e => by have := hn' e; omega⟩, hl, rfl, hc2⟩ rfl (by repeat' (first | exact trivial | rfl | apply And.intro)) (by repeat' (first | exact trivial | rfl | apply And.intro)) ⟨rfl, rfl⟩
  | some i =>
    have hi : i < l.length := by
      rw [List.findIdx?_eq_some_iff_getElem] at hf
      exact hf.1
    have hgy := hl l[i] (List.getElem_mem hi)
    obtain ⟨y0, hy0⟩ : ∃ y0, l[i] = y0 := ⟨_, rfl⟩
    have hget : (l.map Mg.ab)[i]? = some y0.ab := by rw [List.getElem?_map, List.getElem?_eq_getElem hi, hy0]; rfl
    refine CallOb.by' [1000] [0, 0] (sfind_s _ g room c.u c.n hN l hl.ok (by omega) (a, cap) i hi hf) rfl ⟨rfl, rfl, rfl, fun _ _ => ⟨rfl, ?_⟩⟩
    rw [hy0] at hgy ⊢
    conv => whnf
    intro b10
    conv => whnf
    refine Draw.till (by kernel_rfl) tt_ok (Tr.of (List.range 15) .nil) 1000000 (by kernel_rfl) ?_
    conv => whnf
    have hps : (y0.ab.ps.length : Int) = y0.ss.length := by show ((y0.ss.map (·.b)).length : Int) = _; rw [List.length_map]
    have et : tkA room now c (l.map Mg.ab) = if (y0.ab.ps.length : Int) ≠ c.t then (l.map Mg.ab, [], false, 5) else if (y0.ab.ps[c.i.toNat]?.getD none).isSome then (l.map Mg.ab, [], false, 10) else finA (l.map Mg.ab) i y0.ab c := by
      unfold tkA; rw [if_pos hok, hfi, hf]; dsimp only; rw [hget]
    have rc : Rd (Cel.p y0.cel) (some (radr (y0.h, 0))) (dens [] y0.sg) := rd_one (Ent.refl _)
    have rs : Rd (Own y0.a.1 y0.a.2 23 1 (y0.ss.map Sl.v)) y0.a.1 (y0.ss.map Sl.v) := Own.rd
    refine Draw.till (by kernel_rfl) tt_ok (Tr.of (List.range 9) .nil) 1000000 (by kernel_rfl) ?_
    conv => whnf
    refine ld (A := Cel.p y0.cel) 3 (.rs y0.a.1 y0.ss.length y0.a.2) rfl (by simp) rc rfl rfl rfl trivial ?_
    conv => whnf
    refine Cond.neI (fun h5 => ?_) (fun h5 => ?_)
    · rw [et, if_pos (by rw [hps]; exact h5)]
      conv => whnf
      refine Ret.turn (F' := [Own a cap 97 1 (rowM l), all (l.map MgP), Own none 0 5 1 (u8s []), A]) (fun g s => ?_) ?_
      · obtain ⟨g1, k1, d1, h11, h12, hp1, hs1⟩ := s
        have s2 : seps (opn l[i] ++ (all ((l.eraseIdx i).map MgP) :: [A])) k1 := by rw [hy0]; exact hs1
        obtain ⟨g3, k3, d3, h31, h32, hp3, hs3⟩ := (mgs_open hi).2 s2
        exact ⟨g1, k1, d1, h11, h12, hp1, g3, k3, d3, h31, h32, hp3, seps_own0 hs3⟩
      exact Ret.mk' ((a, cap), (l, (none, 0))) [1000] [0, 0, 0, 0] ⟨hk, hl, rfl, .nil⟩ rfl (by repeat' (first | exact trivial | rfl | apply And.intro)) (by repeat' (first | exact trivial | rfl | apply And.intro)) ⟨rfl, rfl⟩
    rw [if_neg (by rw [hps]; simpa using h5)] at et
    have hi0 : 0 ≤ c.i ∧ c.i < c.t := by
      have h2 : c.placed = true := by
        have := hm
        unfold Pc.may at this
        rw [if_pos h1] at this
        simp at this
        exact this.2.1.1
      have := Pc.placed_le h2; omega
    have hii : c.i.toNat < y0.ss.length := by omega
    conv => whnf
    refine Draw.till (by kernel_rfl) tt_ok (Tr.of (List.range 10) .nil) 1000000 (by kernel_rfl) ?_
    conv => whnf
    refine ld (A := Cel.p y0.cel) 3 (.rs y0.a.1 y0.ss.length y0.a.2) rfl (by simp) rc rfl rfl rfl trivial ?_
    conv => whnf
    refine ⟨by omega, PtrOb.rd (A := Own y0.a.1 y0.a.2 23 1 (y0.ss.map Sl.v)) (by simp) rs (by rw [List.length_map]; omega) fun p hp => ?_⟩
    conv => whnf
    obtain ⟨s0, hs0⟩ : ∃ s0, y0.ss[c.i.toNat] = s0 := ⟨_, rfl⟩
    have hs0m : s0 ∈ y0.ss := hs0 ▸ List.getElem_mem hii
    refine ld (A := Own y0.a.1 y0.a.2 23 1 (y0.ss.map Sl.v)) (xs := y0.ss.map Sl.v) c.i.toNat (.rs s0.x.1 (s0.b.getD []).length s0.x.2) rfl (by simp) (by rw [← hp]; exact rs) rfl (by show p.2 + c.i.toNat * 1 = p.2 + c.i.toNat; omega) (by rw [List.getElem?_map, List.getElem?_eq_getElem hii, hs0]; rfl) trivial ?_
    conv => whnf
    have hgs : (y0.ab.ps[c.i.toNat]?.getD none) = s0.b := by
      show ((y0.ss.map (·.b))[c.i.toNat]?.getD none) = s0.b
      rw [List.getElem?_map, List.getElem?_eq_getElem hii, hs0]; rfl
    rw [hgs] at et
    cases hsb : s0.b with
    | some z =>
      have hx := (hgy.full s0 hs0m z hsb).1
      rw [et, hsb]
      refine Cond.mk (fun h => ?_) (fun h => ?_)
      · rw [show (if (some z).isSome = true then (l.map Mg.ab, ([] : List UInt8), false, (10 : Int)) else finA (l.map Mg.ab) i y0.ab c) = (l.map Mg.ab, [], false, 10) from if_pos rfl]
        conv => whnf
        refine Ret.turn (F' := [Own a cap 97 1 (rowM l), all (l.map MgP), Own none 0 5 1 (u8s []), A]) (fun g s => ?_) ?_
        · obtain ⟨g1, k1, d1, h11, h12, hp1, hs1⟩ := s
          have s2 : seps (opn l[i] ++ (all ((l.eraseIdx i).map MgP) :: [A])) k1 := by rw [hy0]; exact hs1
          obtain ⟨g3, k3, d3, h31, h32, hp3, hs3⟩ := (mgs_open hi).2 s2
          exact ⟨g1, k1, d1, h11, h12, hp1, g3, k3, d3, h31, h32, hp3, seps_own0 hs3⟩
        exact Ret.mk' ((a, cap), (l, (none, 0))) [1000] [0, 0, 0, 0] ⟨hk, hl, rfl, .nil⟩ rfl (by repeat' (first | exact trivial | rfl | apply And.intro)) (by repeat' (first | exact trivial | rfl | apply And.intro)) ⟨rfl, rfl⟩
      · exfalso
        cases hh : s0.x.1 with
        | none => exact hx hh
        | some _ => rw [hh] at h; cases h
    | none =>
      have hx := hgy.nil s0 hs0m hsb
      rw [et, hsb]
      refine Cond.mk (fun h => ?_) (fun h => ?_)
      · exfalso
        rw [hx] at h; cases h
      conv => whnf
      refine Draw.part (by kernel_rfl) tt_ok (Tr.of [0, 1, 2, 3, 4, 5, 7, 8, 6, 9, 10, 11] .nil) 11 _ [Cel.p y0.cel] (by kernel_rfl) (fun k => k) (Sub.parts [10, 1000, 9, 5] [1] ⟨rfl, rfl⟩ ?_)
      conv => whnf
      refine ld (A := Cel.p y0.cel) 3 (.rs y0.a.1 y0.ss.length y0.a.2) rfl (by simp) rc rfl rfl rfl trivial ?_
      conv => whnf
      intro b99
      refine Sub.parts [10, 1000, 9, 5] [1] ⟨rfl, rfl⟩ ?_
      conv => whnf
      refine With.own (i := 99) (n := 0) (cap := 0) (size := 1) ⟨_, _, rfl, ⟨rfl, Nat.le_refl _⟩, ?_⟩
      refine appb2 (l := []) (m := c.b) (.refl _) (Src.rs (A := A) (by simp) (hb.1.ent hE)) rfl rfl (by decide) (by simp; omega) 23 (.inr rfl) fun a1 c1 hc1 hn1 => ?_
      rw [List.nil_append] at hc1 ⊢
      refine Sub.parts [10, 1000, 9, 5] [2] ⟨rfl, rfl⟩ ?_
      conv => whnf
      refine ⟨by omega, ?_⟩
      rw [hp]
      refine PtrOb.at ?_
      conv => whnf
      refine st_own (p := p) (cap := y0.a.2) (e := 23) (size := 1) (xs := y0.ss.map Sl.v) (j := c.i.toNat) (ys := [.slice a1 c.b.length c1]) (F' := [Own a1 c1 5 1 (u8s c.b), Own a cap 97 1 (rowM l), Cel.p y0.cel, all (y0.ss.map slP), all ((l.eraseIdx i).map MgP), A]) (by rw [← hp]; exact List.perm_middle (l₁ := [_, _, _])) rfl (by show p.2 + c.i.toNat * 1 = _; omega) rfl rfl (by intro v hv; simp at hv; subst hv; rfl) (by rw [List.length_map]; show c.i.toNat + 1 ≤ _; omega) ?_
      rw [← hp]
      conv => whnf
      refine ld (A := Cel.p y0.cel) 4 (.int .i64 y0.left) rfl (by simp [opn]) rc rfl rfl rfl trivial ?_
      conv => whnf
      have hlf := hgy.left
      refine Ar.i64 (by omega) ?_
      conv => whnf
      refine st_cel (b := y0.h) (L := dens [] y0.sg) (e := 101) (ys := [.int .i64 (y0.left - 1)]) (F' := _) (List.perm_middle (l₁ := [_, _, _])) rfl rfl (by intro v hv; simp at hv; subst hv; rfl) (by show 0 + 4 + 1 ≤ 5; decide) ?_
      conv => whnf
      have rc2 : Rd (blk y0.h (.cells ((dens [] y0.sg).take (0 + 4) ++ ([Value.int .i64 (y0.left - 1)] ++ (dens [] y0.sg).drop (0 + 4 + 1))).toArray 101)) (some (radr (y0.h, 0))) (dens [] ({ y0 with left := y0.left - 1 } : Mg).sg) := rd_one (Ent.refl _)
      refine ld (A := blk y0.h (.cells ((dens [] y0.sg).take (0 + 4) ++ ([Value.int .i64 (y0.left - 1)] ++ (dens [] y0.sg).drop (0 + 4 + 1))).toArray 101)) 4 (.int .i64 (y0.left - 1)) rfl List.mem_cons_self rc2 rfl rfl rfl trivial ?_
      conv => whnf
      rw [show (if (none : Option (List UInt8)).isSome = true then (l.map Mg.ab, ([] : List UInt8), false, (10 : Int)) else finA (l.map Mg.ab) i y0.ab c) = finA (l.map Mg.ab) i y0.ab c from rfl]
      obtain ⟨y1, hy1⟩ : ∃ y1 : Mg, y1 = { y0 with left := y0.left - 1, ss := y0.ss.set c.i.toNat ⟨some c.b, (a1, c1)⟩ } := ⟨_, rfl⟩
      have hcel : Cel.p y1.cel = blk y0.h (.cells ((dens [] y0.sg).take (0 + 4) ++ ([Value.int .i64 (y0.left - 1)] ++ (dens [] y0.sg).drop (0 + 4 + 1))).toArray 101) := by
        rw [hy1]
        show blk y0.h (.cells (dens [] [.one (.int .i64 y0.u), .one (.int .u32 y0.n), .one (.int .i64 y0.since), .one (.rs y0.a.1 (y0.ss.set c.i.toNat _).length y0.a.2), .one (.int .i64 (y0.left - 1))]).toArray _) = _
        rw [List.length_set]; rfl
      have hsv : y1.ss.map Sl.v = (y0.ss.map Sl.v).take c.i.toNat ++ ([Value.slice a1 c.b.length c1] ++ (y0.ss.map Sl.v).drop (c.i.toNat + 1)) := by
        rw [hy1]
        show (y0.ss.set c.i.toNat _).map Sl.v = _
        rw [List.map_set, List.set_eq_take_append_cons_drop, if_pos (by simpa using hii)]; rfl
      have her : (l.set i y1).eraseIdx i = l.eraseIdx i := List.eraseIdx_set_eq
      have hge : (l.set i y1)[i]'(by simpa using hi) = y1 := List.getElem_set_self _
      have hrow : rowM (l.set i y1) = rowM l := by
        unfold rowM
        rw [List.map_set]
        have : ptr y1.h = (l.map fun y => ptr y.h)[i]'(by simpa using hi) := by rw [List.getElem_map, hy0, hy1]
        rw [this, List.set_getElem_self]
      refine Cond.dec (fun hleft => ?_) (fun hleft => ?_)
      · conv => whnf
        refine Ret.turn (F' := [Own a cap 97 1 (rowM (l.set i y1)), all ((l.set i y1).map MgP), Own none 0 5 1 (u8s []), A]) (fun g s => ?_) ?_
        · have s0 : seps [Cel.p y1.cel, Own y0.a.1 y0.a.2 23 1 (y1.ss.map Sl.v), Own a1 c1 5 1 (u8s c.b), Own a cap 97 1 (rowM l), all (y0.ss.map slP), all ((l.eraseIdx i).map MgP), A] g := by rw [hcel, hsv]; exact s
          have s1 : seps [Own a cap 97 1 (rowM l), slP ⟨some c.b, (a1, c1)⟩, all (y0.ss.map slP), Cel.p y1.cel, Own y0.a.1 y0.a.2 23 1 (y1.ss.map Sl.v), all ((l.eraseIdx i).map MgP), A] g := seps_pick [3, 2, 4, 0, 1, 5, 6] rfl s0
          obtain ⟨g1, k1, d1, h11, h12, hp1, hs1⟩ := s1
          have s4 := sl_set (s := ⟨some c.b, (a1, c1)⟩) (ss := y0.ss) (i := c.i.toNat) hii (by rw [hs0]; exact hsb) (F := [Cel.p y1.cel, Own y0.a.1 y0.a.2 23 1 (y1.ss.map Sl.v), all ((l.eraseIdx i).map MgP), A]) hs1
          have s5 : seps (opn y1 ++ (all ((l.eraseIdx i).map MgP) :: [A])) k1 := by
            have := seps_pick [1, 2, 0, 3, 4] rfl s4
            rw [hy1] at this ⊢; exact this
          rw [← hge, ← her] at s5
          obtain ⟨g3, k3, d3, h31, h32, hp3, hs3⟩ := (mgs_open (l := l.set i y1) (i := i) (by simpa using hi)).2 s5
          rw [hrow]
          exact ⟨g1, k1, d1, h11, h12, hp1, g3, k3, d3, h31, h32, hp3, seps_own0 hs3⟩
        have hab : y1.ab = { y0.ab with ps := y0.ab.ps.set c.i.toNat (some c.b), left := y0.ab.left - 1 } := by
          rw [hy1]
          show Ab.mk y0.u y0.n y0.since (y0.left - 1) ((y0.ss.set c.i.toNat _).map (·.b)) = _
          rw [List.map_set]; rfl
        have efin : finA (l.map Mg.ab) i y0.ab c = ((l.set i y1).map Mg.ab, [], false, 0) := by
          unfold finA
          rw [if_pos (by exact hleft), List.map_set, hab]
        have hgp : goods (l.set i y1) := by
          intro q hq
          rcases List.mem_or_eq_of_mem_set hq with hq | hq
          · exact hl q hq
          · rw [hq, hy1]
            refine ⟨hgy.nm, fun s hs hn => ?_, fun s hs z hz => ?_, ⟨by dsimp only; omega, by dsimp only; omega⟩, ⟨by show (y0.ss.set _ _).length ≤ 8; rw [List.length_set]; exact hgy.ss.1, by show Fc y0.a.1 y0.a.2 (y0.ss.set _ _); exact ⟨by rw [List.length_set]; exact hgy.ss.2.1, fun e => by rw [hgy.ss.2.2 e]; rfl⟩⟩⟩
            · rcases List.mem_or_eq_of_mem_set hs with hs | hs
              · exact hgy.nil s hs hn
              · rw [hs] at hn; cases hn
            · rcases List.mem_or_eq_of_mem_set hs with hs | hs
              · exact hgy.full s hs z hz
              · rw [hs] at hz ⊢
                cases hz
                exact ⟨fun e => by have := hn1 e; simp at this, hc1, by omega⟩
        have elen : (l.set i y1).length = l.length := List.length_set
        rw [efin, ← elen]
        exact Ret.mk' ((a, cap), (l.set i y1, (none, 0))) [1000] [0, 0, 0, 0] ⟨⟨by rw [elen]; exact hk.1, fun e => by rw [hk.2 e]; rfl⟩, hgp, rfl, .nil⟩ rfl (by repeat' (first | exact trivial | rfl | apply And.intro)) (by repeat' (first | exact trivial | rfl | apply And.intro)) ⟨rfl, rfl⟩
      · conv => whnf
        refine CallOb.know (p := ∀ y ∈ l.eraseIdx i, y.h ≠ y0.h) (Runs.of Try.func46 rfl (by decide)) (fun w hs y hy => ?_) fun hne => ?_
        · have s1 : sat ([] ++ [blk y0.h (.cells ((dens [] y0.sg).take (0 + 4) ++ ([Value.int .i64 (y0.left - 1)] ++ (dens [] y0.sg).drop (0 + 4 + 1))).toArray 101), all ((l.eraseIdx i).map MgP)]) w := by
            refine Parts.sat (cs := []) (fi := [0, 4]) ?_ hs
            exact ⟨rfl, rfl⟩
          exact blk_ne s1 ((Ent.all (List.mem_map.2 ⟨y, hy, rfl⟩)).trans (Ent.at 0 rfl))
        have hdel := fun A => deleteM_c A 47 b10 (fun y => decide (y.h = y1.h)) a cap (l.set i y1)
        have elen : (l.set i y1).length = l.length := List.length_set
        rw [hrow, elen] at hdel
        have hmem : ∀ y ∈ l.set i y1, y = y1 ∨ y ∈ l.eraseIdx i := fun y hy => mem_set_erase hi hy
        have hph : y1.h = y0.h := by rw [hy1]
        refine CallOb.by' [] [3] (hdel _ (take2_c _ b10 (l.set i y1) y1 (List.mem_of_getElem hge) (Ent.at 0 (by rw [hph]; rfl)) (fun y hy => ?_)) (by omega) hk.1) rfl ⟨rfl, rfl, rfl, fun _ _ => ⟨rfl, ?_⟩⟩
        · rcases hmem y hy with hy | hy
          · rw [hy, hcel]; exact Ent.at 4 rfl
          · exact (ent_mg (Ent.at 8 rfl) hy).trans (Ent.at 0 rfl)
        have hf2 : (l.set i y1).filter (fun y => !decide (y.h = y1.h)) = l.eraseIdx i := by
          refine filter_set hi (by simp) fun y hy => ?_
          have := hne y hy
          rw [hph]; simpa using this
        rw [hf2]
        conv => whnf
        have hbt : ∀ s ∈ y1.ss, s ∈ y0.ss ∨ s = ⟨some c.b, (a1, c1)⟩ := by
          intro s hs
          rw [hy1] at hs
          exact List.mem_or_eq_of_mem_set hs
        have hb240 : ∀ s ∈ y1.ss, s.l.length ≤ 240 := by
          intro s hs
          rcases hbt s hs with hs | rfl
          · unfold Sl.l
            cases hb0 : s.b with
            | none => simp
            | some z => exact (hgy.full s hs z hb0).2.2
          · show c.b.length ≤ 240; omega
        have hssl : y1.ss.length ≤ 8 := by rw [hy1]; show (y0.ss.set _ _).length ≤ 8; rw [List.length_set]; exact hgy.ss.1
        have hslen : (slices y1.ss).length ≤ 8 * 240 := Nat.le_trans (slices_le hb240) (Nat.mul_le_mul_right _ hssl)
        have hsl1 : y1.ss.length = y0.ss.length := by rw [hy1]; exact List.length_set
        have rc3 : Rd (blk y0.h (.cells ((dens [] y0.sg).take (0 + 4) ++ ([Value.int .i64 (y0.left - 1)] ++ (dens [] y0.sg).drop (0 + 4 + 1))).toArray 101)) (some (radr (y0.h, 0))) (dens [] y1.sg) := by
          rw [← hcel, ← hph]; exact rd_one (Ent.refl _)
        refine ld (A := blk y0.h (.cells ((dens [] y0.sg).take (0 + 4) ++ ([Value.int .i64 (y0.left - 1)] ++ (dens [] y0.sg).drop (0 + 4 + 1))).toArray 101)) 3 (.rs y0.a.1 y1.ss.length y0.a.2) rfl (List.mem_cons_of_mem _ List.mem_cons_self) rc3 rfl rfl (by rw [hy1]; rfl) trivial ?_
        conv => whnf
        refine CallOb.fb (concat_c _ y0.a y1.ss ?_ ?_ (by omega) (by omega)) rfl fun a2 c2 hc2 => ?_
        · rw [hsv]; exact Rd.ent (Ent.at 6 rfl) Own.rd
        · intro s hs
          rcases hbt s hs with hs | rfl
          · cases hb0 : s.b with
            | none =>
              have e1 := hgy.nil s hs hb0
              have e2 : s.l = [] := by unfold Sl.l; rw [hb0]; rfl
              rw [e1, e2]; exact ⟨fun h _ => .inl rfl, Nat.le_refl _, fun _ => rfl⟩
            | some z =>
              have e1 := hgy.full s hs z hb0
              have e2 : s.l = z := by unfold Sl.l; rw [hb0]; rfl
              have e3 : slP s = Own s.x.1 s.x.2 5 1 (u8s z) := by unfold slP; rw [hb0]
              rw [e2]
              exact ⟨Rd.ent ((Ent.at 8 rfl).trans (Ent.all (List.mem_map.2 ⟨s, hs, e3⟩))) Own.rd, e1.2.1⟩
          · exact ⟨Rd.ent (Ent.at 7 rfl) Own.rd, hc1.1, hc1.2⟩
        have efin : finA (l.map Mg.ab) i y0.ab c = ((l.eraseIdx i).map Mg.ab, slices y1.ss, true, 0) := by
          unfold finA
          rw [if_neg (by exact hleft), map_erase]
          congr 2
          show ((y0.ss.map (·.b)).set c.i.toNat (some c.b) |>.map (·.getD [])).flatten = (y1.ss.map Sl.l).flatten
          rw [hy1]
          show _ = ((y0.ss.set c.i.toNat _).map Sl.l).flatten
          rw [List.map_set, List.map_set, List.map_map]; rfl
        rw [efin]
        conv => whnf
        exact Ret.mk' ((a, cap), (l.eraseIdx i, (a2, c2))) [1000] [1, 5, 0, 4] ⟨⟨by have : l.length ≤ cap := hk.1; show (l.eraseIdx i).length ≤ cap; rw [List.length_eraseIdx]; split <;> omega, fun e => by rw [hk.2 e]; rfl⟩, fun q hq => hl q (List.mem_of_mem_eraseIdx hq), rfl, hc2⟩ rfl (by repeat' (first | exact trivial | rfl | apply And.intro)) (by repeat' (first | exact trivial | rfl | apply And.intro)) ⟨rfl, rfl⟩
end Go.Proofs.Ytiimeklgjoclpaa
