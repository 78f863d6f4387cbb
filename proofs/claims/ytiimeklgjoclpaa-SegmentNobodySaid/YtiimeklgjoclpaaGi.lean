/- Messages cut: the program's pieces. -/
import Derived.Test.YtiimeklgjoclpaaGh
namespace Go.Proofs.Ytiimeklgjoclpaa
open Go.Sx
set_option maxRecDepth 100000
set_option pp.deepTerms false
set_option pp.maxSteps 300
set_option linter.unusedSimpArgs false
set_option linter.unusedVariables false

/-- A piece, and where its bytes are. -/
structure Px where
  c : Pc
  x : AC
  y : AC
abbrev Px.sg (p : Px) : List Seg := p.c.sg p.x p.y
def Px.cs (p : Px) : List Value := dens [] p.sg
theorem Px.len (p : Px) : p.cs.length = 7 := rfl
theorem Px.one (p : Px) : ∀ v ∈ p.cs, v.oneCell' = true := dens_one_cell (okL_spec (B := []) (by exact (by repeat' (first | exact trivial | rfl | exact hk _ | apply And.intro))))
def rowP (l : List Px) : List Value := (l.map Px.cs).flatten
theorem rowP_append (l m : List Px) : rowP (l ++ m) = rowP l ++ rowP m := by simp [rowP]
theorem rowP_len (l : List Px) : (rowP l).length = l.length * 7 := by
  have := flatten_len (css := l.map Px.cs) (n := 7) (fun c hc => by simp at hc; obtain ⟨y, hy, rfl⟩ := hc; exact Px.len y)
  simpa [rowP] using this
theorem rowP_one (l : List Px) : ∀ v ∈ rowP l, v.oneCell' = true := by
  intro v hv
  simp only [rowP, List.mem_flatten, List.mem_map] at hv
  obtain ⟨_, ⟨y, hy, rfl⟩, hv⟩ := hv
  exact Px.one y v hv
theorem rowP_take (l : List Px) (k : Nat) : (rowP l).take (k * 7) = rowP (l.take k) := by
  by_cases hk : k ≤ l.length
  · have e : rowP l = rowP (l.take k) ++ rowP (l.drop k) := by rw [← rowP_append, List.take_append_drop]
    have hl : (rowP (l.take k)).length = k * 7 := by rw [rowP_len, List.length_take, Nat.min_eq_left hk]
    rw [e, ← hl, List.take_left]
  · rw [List.take_of_length_le (by rw [rowP_len]; omega), List.take_of_length_le (by omega)]
theorem rowP_drop (l : List Px) (k : Nat) (hk : k ≤ l.length) : (rowP l).drop (k * 7) = rowP (l.drop k) := by
  have e : rowP l = rowP (l.take k) ++ rowP (l.drop k) := by rw [← rowP_append, List.take_append_drop]
  have hl : (rowP (l.take k)).length = k * 7 := by rw [rowP_len, List.length_take, Nat.min_eq_left hk]
  rw [e, ← hl, List.drop_left]
/-- One piece is read. -/
theorem ldpx {t : Nat} {x : TyX} {b off : Nat} {m : M} {f : SV → Prop} {A : HProp} {p : Nat × Nat} {l : List Px} (i : Nat) (hA : A ∈ m.F) (hr : Rd A (some (radr p)) (rowP l)) (hi : i < l.length)
    (hx : x.k.agg = true) (hn : x.size = 7) (hb : b = p.1) (ho : off = p.2 + i * 7) (hf : f (.agg l[i].sg)) : With (Ty Try.prog t x) (LdOb Try.prog t ⟨b, off, none⟩ m f) := by
  have k2 := oks_nil (okL_spec (B := []) (l := l[i].sg) (by exact (by repeat' (first | exact trivial | rfl | exact hk _ | apply And.intro)))) m.B
  refine lds (A := A) (i * 7) l[i].sg hx hA hr hb ho ?_ ?_ (by omega) k2.1 hf
  · rw [k2.2, hn, rowP_drop l _ (by omega), List.drop_eq_getElem_cons hi]
    show l[i].cs = (l[i].cs ++ _).take 7
    rw [← Px.len l[i], List.take_left]
  · rw [k2.2]; exact hn.symm
/-- The pieces' bytes, held. -/
def ows (l : List Px) : HProp := all (l.map fun p => Own p.x.1 p.x.2 5 1 (u8s p.c.b))
structure Pxs (l : List Px) : Prop where
  f : ∀ p ∈ l, Fc p.x.1 p.x.2 p.c.b
  y : ∀ p ∈ l, p.y = (none, 0) ∧ p.c.s = []

theorem ows_snoc {l : List Px} {p : Px} {F : List HProp} (g : Hp) (s : seps (Own p.x.1 p.x.2 5 1 (u8s p.c.b) :: ows l :: F) g) : seps (ows (l ++ [p]) :: F) g := by
  unfold ows
  rw [List.map_append]
  refine seps_all.2 ?_
  have s2 : seps (all (l.map fun p => Own p.x.1 p.x.2 5 1 (u8s p.c.b)) :: ([Own p.x.1 p.x.2 5 1 (u8s p.c.b)] ++ F)) g := seps_perm (List.Perm.swap _ _ _) s
  rw [List.append_assoc]
  exact seps_all.1 s2
theorem part_bts {R : HProp} {x : AC} {b : List UInt8} (hb : Bts R x.1 x.2 b) {i z : Nat} (hz : 1 ≤ z) (hi : i * z < b.length) :
    Bts R (partA x.1 b.length z i) (partN b.length z i) ((b.drop (i * z)).take z) ∧ ((b.drop (i * z)).take z).length = partN b.length z i := by
  have hp : i * z + partN b.length z i ≤ b.length ∧ 1 ≤ partN b.length z i := by unfold partN; omega
  have hc := hb.2.1
  have h := hb.sub (i * z) (partN b.length z i) (by omega)
  have e1 : (b.drop (i * z)).take (partN b.length z i) = (b.drop (i * z)).take z := by
    unfold partN
    rw [Nat.min_def]
    split
    · rfl
    · rw [List.take_of_length_le (by rw [List.length_drop]; omega), List.take_of_length_le (by rw [List.length_drop]; omega)]
  have e2 : cutA x.1 x.2 (i * z) 1 = partA x.1 b.length z i := by
    unfold partA cutA
    have : min z (b.length - i * z) = partN b.length z i := rfl
    rw [this, if_neg (by omega), if_neg (by omega)]
  have e3 : ((b.drop (i * z)).take z).length = partN b.length z i := by rw [List.length_take, List.length_drop]; rfl
  rw [e1, e2] at h
  exact ⟨⟨h.1, by omega, h.2.2⟩, e3⟩
def Px.tt (p : Px) (t : Int) : Px := ⟨{ p.c with t := t }, p.x, p.y⟩
def updP (l : List Px) (t : Int) (j : Nat) : List Px := (l.take j).map (·.tt t) ++ l.drop j
theorem updP_len (l : List Px) (t : Int) (j : Nat) (h : j ≤ l.length) : (updP l t j).length = l.length := by simp [updP]; omega
theorem rowP_tt {l : List Px} {t : Int} {j : Nat} (h : j < l.length) : (rowP (updP l t j)).take (j * 7 + 4) ++ ([Value.int .i64 t] ++ (rowP (updP l t j)).drop (j * 7 + 4 + 1)) = rowP (updP l t (j + 1)) := by
  have e1 : updP l t j = (l.take j).map (·.tt t) ++ ([l[j]] ++ l.drop (j + 1)) := by unfold updP; rw [List.drop_eq_getElem_cons h]; rfl
  have e2 : updP l t (j + 1) = (l.take j).map (·.tt t) ++ ([l[j].tt t] ++ l.drop (j + 1)) := by
    unfold updP; rw [List.take_succ_eq_append_getElem h, List.map_append, List.append_assoc]; rfl
  have hl : (rowP ((l.take j).map (·.tt t))).length = j * 7 := by rw [rowP_len, List.length_map, List.length_take, Nat.min_eq_left (by omega)]
  rw [e1, e2, rowP_append, rowP_append, rowP_append, rowP_append]
  generalize rowP ((l.take j).map (·.tt t)) = P at hl ⊢
  generalize rowP (l.drop (j + 1)) = Q
  have e3 : rowP [l[j]] = [.int .i64 l[j].c.k, .int .i64 l[j].c.u, .int .u32 l[j].c.n, .int .i64 l[j].c.i, .int .i64 l[j].c.t, .slice l[j].x.1 l[j].c.b.length l[j].x.2, .slice l[j].y.1 l[j].c.s.length l[j].y.2] := rfl
  have e4 : rowP [l[j].tt t] = [.int .i64 l[j].c.k, .int .i64 l[j].c.u, .int .u32 l[j].c.n, .int .i64 l[j].c.i, .int .i64 t, .slice l[j].x.1 l[j].c.b.length l[j].x.2, .slice l[j].y.1 l[j].c.s.length l[j].y.2] := rfl
  rw [e3, e4, ← hl]
  simp [List.take_append, List.drop_append, show P.length + 4 + 1 = P.length + 5 by omega]
  rw [List.take_of_length_le (by omega), List.drop_eq_nil_of_le (by omega)]; rfl
theorem updP_all (l : List Px) (t : Int) : updP l t l.length = l.map (·.tt t) := by simp [updP]
theorem ows_tt (l : List Px) (t : Int) : ows (l.map (·.tt t)) = ows l := by
  unfold ows; rw [List.map_map]; rfl
/-- The pieces of a message, their number not told as yet. -/
def pieceAt (u n : Int) (b : List UInt8) (t : Int) (j : Nat) : Pc := ⟨1, u, n, j, t, (b.drop (j * 240)).take 240, []⟩
def piecesN (b : List UInt8) : Nat := max 1 (chunkN b.length 240)
def cutP (u n : Int) (b : List UInt8) : List Pc × Int :=
  if 0 ≤ u ∧ u < 8 then if b.length > 1920 then ([], 3) else ((List.range (piecesN b)).map (pieceAt u n b (piecesN b)), 0) else ([], 2)

theorem scut_c (A R : HProp) (hE : Ent A R) (u n : Int) (hn : 0 ≤ n ∧ n ≤ 4294967295) (x : AC) (b : List UInt8) (hb : Bts R x.1 x.2 b) (hl : b.length ≤ 1000000) :
    Con Try.prog 20 [.c (.int .i64 u), .c (.int .u32 n), .c (.rs x.1 b.length x.2)] [] [] A (fun t : AC × List Px => Fc t.1.1 t.1.2 t.2 ∧ Pxs t.2 ∧ t.2.map (·.c) = (cutP u n b).1)
      (fun t => .tup [.c (.rs t.1.1 t.2.length t.1.2), .c (.int .i64 (cutP u n b).2)]) (fun _ => []) (fun t => [Own t.1.1 t.1.2 31 7 (rowP t.2), ows t.2]) := by
  refine Con.ofM' tt_ok Try.func20 rfl (by decide) [.c (.int .i64 u), .c (.int .u32 n), .c (.rs x.1 b.length x.2)] [] [] rfl rfl trivial (by repeat' (first | exact trivial | rfl | exact hk _ | apply And.intro)) rfl ?_
  conv => whnf
  intro b3
  conv => whnf
  intro b4
  conv => whnf
  refine CallOb.pu (suser_c _ u) rfl ?_
  conv => whnf
  refine Cond.not (Cond.mk (fun hu => ?_) (fun hu => ?_))
  case refine_2 =>
    have e : cutP u n b = ([], 2) := if_neg (by simp at hu; omega)
    rw [e]
    conv => whnf
    refine .no ?_
    conv => whnf
    refine Ret.turn (F' := [Own none 0 31 7 [], ows [], A]) (fun g s => seps_own0 (seps_all0 s)) ?_
    exact Ret.mk' ((none, 0), []) [] [0, 0, 0] ⟨.nil, ⟨by simp, by simp⟩, rfl⟩ rfl (by repeat' (first | exact trivial | rfl | apply And.intro)) trivial ⟨rfl, rfl⟩
  have hu : 0 ≤ u ∧ u < 8 := by simp at hu; omega
  conv => whnf
  refine Cond.dec (fun h3 => ?_) (fun h3 => ?_)
  · have e : cutP u n b = ([], 3) := by unfold cutP; rw [if_pos hu, if_pos (by omega)]
    rw [e]
    conv => whnf
    refine .no ?_
    conv => whnf
    refine Ret.turn (F' := [Own none 0 31 7 [], ows [], A]) (fun g s => seps_own0 (seps_all0 s)) ?_
    exact Ret.mk' ((none, 0), []) [] [0, 0, 0] ⟨.nil, ⟨by simp, by simp⟩, rfl⟩ rfl (by repeat' (first | exact trivial | rfl | apply And.intro)) trivial ⟨rfl, rfl⟩
  conv => whnf
  intro b8
  conv => whnf
  refine CallOb.new (chunk_c _ x.1 b.length x.2 240 (by decide)) rfl fun g _ => ?_
  obtain ⟨g1, g2⟩ := g
  conv => whnf
  refine ⟨rfl, ?_⟩
  have hit := chunk1_c x.1 b.length x.2 240 g1 g2 (by decide) hl hb.2.1
  have hrun : Runs Try.prog 61 := Runs.of Try.func61 rfl (by decide)
  have bok : ∀ (a : AC) (k : Nat), okH [(8, b8), (4, b4), (3, b3)] [(8, [.one (.rs a.1 k a.2)], 43), (4, [.one (.int .u32 n)], 22), (3, [.one (.int .i64 u)], 3)] := fun _ _ => (by repeat' (first | exact trivial | rfl | exact hk _ | apply And.intro))
  refine RangeOb.turn (F' := [Own none 0 31 7 [], ows [], all ((qCh g1 g2 x.1 b.length x.2 240).map Cel.p), A]) (fun g s => seps_own0 (seps_all0 s)) ?_
  refine RangeOb.by' (σ := AC × List Px) (fun i s => s.2.length = i ∧ Fc s.1.1 s.1.2 s.2 ∧ Pxs s.2 ∧ s.2.map (·.c) = (List.range i).map (pieceAt u n b 0))
    (fun s => ([(8, [.one (.rs s.1.1 s.2.length s.1.2)], 43), (4, [.one (.int .u32 n)], 22), (3, [.one (.int .i64 u)], 3)], [Own s.1.1 s.1.2 31 7 (rowP s.2), ows s.2, A]))
    [8, 4, 3] [2] [0, 0, 0] ((none, 0), []) [all ((qCh g1 g2 x.1 b.length x.2 240).map Cel.p)] (fun g s => by rw [List.append_nil]; exact seps_one g s) rfl hrun hit
    ⟨rfl, .nil, ⟨by simp, by simp⟩, rfl⟩ ?_ ⟨rfl, ⟨rfl, bok _ _⟩, rfl⟩ ?_ ?_
  · intro z hz
    obtain ⟨j, _, rfl⟩ := List.mem_map.1 hz
    exact trivial
  · rintro i ⟨⟨a, cap⟩, l⟩ z hz ⟨hi, hc, hp, hm⟩ R0
    have hi8 : i < chunkN b.length 240 := by
      have := (List.getElem?_eq_some_iff.1 hz).1
      unfold chunks at this; simpa using this
    have hzz : z = .c (.rs (partA x.1 b.length 240 i) (partN b.length 240 i) (partN b.length 240 i)) := by
      unfold chunks at hz
      rw [List.getElem?_map, List.getElem?_range hi8] at hz
      exact (Option.some.inj hz).symm
    subst hzz
    dsimp only at hi hc hp hm ⊢
    conv => whnf
    refine ⟨rfl, rfl, fun R1 => ?_⟩
    have hi1 := (chunkN_lt (len := b.length) (j := i) (z := 240) (by decide)).1 hi8
    obtain ⟨hpt, hpl⟩ := part_bts hb (z := 240) (by decide) hi1
    have hln : l.length < 1000000 := by
      have := chunkN_lt (len := b.length) (j := i) (z := 240) (by decide)
      omega
    conv => whnf
    refine Draw.till (by kernel_rfl) tt_ok (Tr.of (List.range 11) .nil) 9 (by kernel_rfl) ?_
    conv => whnf
    rw [← hpl]
    refine CallOb.new (clone_c _ R ((Ent.all (by simp)).trans hE) (partA x.1 b.length 240 i) ((b.drop (i * 240)).take 240).length ((b.drop (i * 240)).take 240) (by rw [← hpl] at hpt; exact hpt) (by rw [hpl]; unfold partN; omega)) rfl fun y hy => ?_
    conv => whnf
    refine Sub.parts [8, 4, 3] [1, 1, 1, 1] ⟨rfl, rfl⟩ ?_
    conv => whnf
    intro b30
    refine Sub.parts [8, 4, 3] [1, 1, 1, 1] ⟨rfl, rfl⟩ ?_
    conv => whnf
    have hpx : ∃ px : Px, px = ⟨pieceAt u n b 0 i, y, (none, 0)⟩ := ⟨_, rfl⟩
    obtain ⟨px, hpx⟩ := hpx
    have hcs : px.cs = [.int .i64 1, .int .i64 u, .int .u32 n, .int .i64 l.length, .int .i64 0, .slice y.1 ((b.drop (i * 240)).take 240).length y.2, .slice none 0 0] := by rw [hpx, hi]; rfl
    refine append_own (a := a) (n := l.length) (cap := cap) (xs := rowP l) (k := 1) (ys := px.cs) (F' := [Own y.1 y.2 5 1 (u8s ((b.drop (i * 240)).take 240)), ows l, A, R1]) (List.Perm.swap _ _ _) (rowP_len l) ((Px.len px).trans rfl) (Src.slc (by rw [hcs]; exact ⟨[], rfl⟩)) (Px.one px)
      (by show (l.length + 1 + (l.length + 1) / 4 + 192) * 88 ≤ 281474976710656; omega) (by omega) (by decide) 43 (.inr rfl) ?_
    intro a' cap' hc' hn'
    conv => whnf
    have elen : l.length + 1 = (l ++ [px]).length := by simp
    refine ⟨rfl, ((a', cap'), l ++ [px]), ⟨by rw [List.length_append, hi]; rfl, ⟨by rw [← elen]; exact hc', fun e => by have := hn' e; omega⟩, ⟨fun q hq => ?_, fun q hq => ?_⟩, ?_⟩, ?_⟩
    · rcases List.mem_append.1 hq with hq | hq
      · exact hp.f q hq
      · rw [List.mem_singleton.1 hq, hpx]; exact hy
    · rcases List.mem_append.1 hq with hq | hq
      · exact hp.y q hq
      · rw [List.mem_singleton.1 hq, hpx]; exact ⟨rfl, rfl⟩
    · rw [List.map_append, hm, List.range_succ, List.map_append, hpx]; rfl
    · rw [elen]
      refine round_end [8, 4, 3] [0, 0, 0, 0, 0] (bok _ _) ⟨rfl, rfl⟩ (fun g s => ?_)
      have e1 : rowP (l ++ [px]) = rowP l ++ px.cs := by rw [rowP_append]; simp [rowP]
      show seps [Own a' cap' 31 7 (rowP (l ++ [px])), ows (l ++ [px]), A, R1] g
      rw [e1]
      obtain ⟨g1, k1, d, h1, h2, hp1, hs⟩ := s
      refine ⟨g1, k1, d, h1, h2, hp1, ows_snoc (p := px) k1 ?_⟩
      rw [hpx]; exact hs
  · rintro ⟨⟨a, cap⟩, l⟩ _ r ⟨hll, hc, hp, hm⟩ _
    dsimp only at hll hc hp hm ⊢
    have exl : (chunks x.1 b.length 240).length = chunkN b.length 240 := by unfold chunks; simp
    rw [exl] at hll hm
    have h1920 : b.length ≤ 1920 := by omega
    have hcn : chunkN b.length 240 ≤ 8 := by unfold chunkN; omega
    conv => whnf
    refine Cond.eqI (fun h0 => ?_) (fun h0 => ?_)
    · have hl0 : l = [] := List.eq_nil_of_length_eq_zero (by omega)
      subst hl0
      have hb0 : b.length = 0 := by
        have : ¬ 0 < chunkN b.length 240 := by rw [← hll]; simp
        have := mt (chunkN_lt (len := b.length) (j := 0) (z := 240) (by decide)).2 this
        omega
      conv => whnf
      intro b38
      conv => whnf
      have hpn : piecesN b = 1 := by unfold piecesN chunkN; rw [hb0]; rfl
      have ecut : cutP u n b = ([⟨1, u, n, 0, 1, [], []⟩], 0) := by
        have hd : (List.drop (0 * 240) b).take 240 = [] := by rw [List.eq_nil_of_length_eq_zero hb0]; rfl
        unfold cutP; rw [if_pos hu, if_neg (by omega), hpn]
        simp only [List.range_one, List.map_cons, List.map_nil, pieceAt, hd]; rfl
      rw [ecut]
      have hp0 : ∃ p0 : List Px, p0 = [⟨⟨1, u, n, 0, 0, [], []⟩, (none, 0), (none, 0)⟩] := ⟨_, rfl⟩
      have hfin : Fc (some (radr (b38, 0))) 1 (([⟨⟨1, u, n, 0, 0, [], []⟩, (none, 0), (none, 0)⟩] : List Px).map (·.tt 1)) ∧ Pxs (([⟨⟨1, u, n, 0, 0, [], []⟩, (none, 0), (none, 0)⟩] : List Px).map (·.tt 1)) ∧
          (([⟨⟨1, u, n, 0, 0, [], []⟩, (none, 0), (none, 0)⟩] : List Px).map (·.tt 1)).map (·.c) = [⟨1, u, n, 0, 1, [], []⟩] := by
        refine ⟨⟨Nat.le_refl _, fun e => by cases e⟩, ⟨fun q hq => ?_, fun q hq => ?_⟩, rfl⟩
        · obtain ⟨q', hq', rfl⟩ := List.mem_map.1 hq
          rw [List.mem_singleton.1 hq']; exact .nil
        · obtain ⟨q', hq', rfl⟩ := List.mem_map.1 hq
          rw [List.mem_singleton.1 hq']; exact ⟨rfl, rfl⟩
      have hlen : (([⟨⟨1, u, n, 0, 0, [], []⟩, (none, 0), (none, 0)⟩] : List Px)).length ≤ 8 := by first | (exact Nat.le_of_ble_eq_true rfl) | omega
      refine LoopOb.mk' (σ := Nat) (fun j => [(8, .c (.ptr 8 0)), (40, .c (.int .i64 (([⟨⟨1, u, n, 0, 0, [], []⟩, (none, 0), (none, 0)⟩] : List Px)).length)), (41, .c (.int .i64 j))])
        (fun j => ⟨[(1000000, r), (8, b8), (4, b4), (3, b3)], [(8, [.one (.rs (some (radr (b38, 0))) (([⟨⟨1, u, n, 0, 0, [], []⟩, (none, 0), (none, 0)⟩] : List Px)).length 1)], 43), (4, [.one (.int .u32 n)], 22), (3, [.one (.int .i64 u)], 3)], [Own (some (radr (b38, 0))) 1 31 7 (rowP (updP (([⟨⟨1, u, n, 0, 0, [], []⟩, (none, 0), (none, 0)⟩] : List Px)) (([⟨⟨1, u, n, 0, 0, [], []⟩, (none, 0), (none, 0)⟩] : List Px)).length j)), ows (([⟨⟨1, u, n, 0, 0, [], []⟩, (none, 0), (none, 0)⟩] : List Px)), A, Mk r]⟩)
        (fun j => j ≤ (([⟨⟨1, u, n, 0, 0, [], []⟩, (none, 0), (none, 0)⟩] : List Px)).length) (fun j => (([⟨⟨1, u, n, 0, 0, [], []⟩, (none, 0), (none, 0)⟩] : List Px)).length - j) 0 (Nat.zero_le _) (Wk.turn (F' := [ows [⟨⟨1, u, n, 0, 0, [], []⟩, (none, 0), (none, 0)⟩], A, Mk r]) (fun g s => seps_all.2 (show seps ([Own none 0 5 1 (u8s [])] ++ [A, Mk r]) g from seps_own0 (seps_tail (seps_tail (seps_tail (seps_tail s)))))) (Wk.own 38 1 1 7 ⟨_, _, rfl, ⟨rfl, Nat.le_refl _⟩, (by repeat' (first | exact trivial | rfl | apply And.intro)), Wk.mk' [8, 4, 3] [0, 0, 0, 0] ⟨⟨rfl, (by repeat' (first | exact trivial | rfl | apply And.intro))⟩, ⟨rfl, (by repeat' (first | exact trivial | rfl | apply And.intro))⟩, ⟨rfl, (by repeat' (first | exact trivial | rfl | apply And.intro))⟩, trivial⟩ (by repeat' (first | exact trivial | rfl | apply And.intro)) ⟨rfl, rfl⟩⟩)) ?_
      intro j hj
      conv => whnf
      refine Cond.dec (fun h => ?_) (fun h => ?_)
      · have hj' : j < (([⟨⟨1, u, n, 0, 0, [], []⟩, (none, 0), (none, 0)⟩] : List Px)).length := by omega
        conv => whnf
        refine ⟨by omega, ?_⟩
        conv => whnf
        refine PtrOb.rd (A := Own (some (radr (b38, 0))) 1 31 7 (rowP (updP (([⟨⟨1, u, n, 0, 0, [], []⟩, (none, 0), (none, 0)⟩] : List Px)) (([⟨⟨1, u, n, 0, 0, [], []⟩, (none, 0), (none, 0)⟩] : List Px)).length j))) (by simp) Own.rd (by rw [rowP_len, updP_len _ _ _ hj]; omega) fun p hp => ?_
        conv => whnf
        rw [hp]
        refine st_own (j := j * 7 + 4) (ys := [.int .i64 (([⟨⟨1, u, n, 0, 0, [], []⟩, (none, 0), (none, 0)⟩] : List Px)).length]) (.refl _) rfl (by show p.2 + (j : Int).toNat * 7 + 4 = p.2 + (j * 7 + 4); omega) rfl rfl (by simp [Value.oneCell']) (by rw [rowP_len, updP_len _ _ _ hj]; show j * 7 + 4 + 1 ≤ _; omega) ?_
        rw [← hp]
        conv => whnf
        refine Ar.i64 (by omega) ?_
        conv => whnf
        refine ⟨j + 1, by omega, by omega, Wk.mk' [8, 4, 3] [0, 0, 0, 0] ⟨⟨rfl, (by repeat' (first | exact trivial | rfl | apply And.intro))⟩, ⟨rfl, (by repeat' (first | exact trivial | rfl | apply And.intro))⟩, ⟨rfl, (by repeat' (first | exact trivial | rfl | apply And.intro))⟩, trivial⟩ (by repeat' (first | exact trivial | rfl | apply And.intro)) ⟨rfl, ?_⟩⟩
        show [Own (some (radr (b38, 0))) 1 31 7 ((rowP (updP (([⟨⟨1, u, n, 0, 0, [], []⟩, (none, 0), (none, 0)⟩] : List Px)) (([⟨⟨1, u, n, 0, 0, [], []⟩, (none, 0), (none, 0)⟩] : List Px)).length j)).take (j * 7 + 4) ++ ([Value.int .i64 (([⟨⟨1, u, n, 0, 0, [], []⟩, (none, 0), (none, 0)⟩] : List Px)).length] ++ (rowP (updP (([⟨⟨1, u, n, 0, 0, [], []⟩, (none, 0), (none, 0)⟩] : List Px)) (([⟨⟨1, u, n, 0, 0, [], []⟩, (none, 0), (none, 0)⟩] : List Px)).length j)).drop (j * 7 + 4 + 1))), ows (([⟨⟨1, u, n, 0, 0, [], []⟩, (none, 0), (none, 0)⟩] : List Px)), A, Mk r] = _
        rw [rowP_tt hj']
      · have hj' : j = (([⟨⟨1, u, n, 0, 0, [], []⟩, (none, 0), (none, 0)⟩] : List Px)).length := by omega
        subst hj'
        rw [updP_all]
        conv => whnf
        refine .one 3 r rfl ⟨rfl, ?_⟩
        conv => whnf
        rw [← ows_tt (([⟨⟨1, u, n, 0, 0, [], []⟩, (none, 0), (none, 0)⟩] : List Px)) (([⟨⟨1, u, n, 0, 0, [], []⟩, (none, 0), (none, 0)⟩] : List Px)).length]
        exact Ret.mk' (((some (radr (b38, 0))), 1), (([⟨⟨1, u, n, 0, 0, [], []⟩, (none, 0), (none, 0)⟩] : List Px)).map (·.tt (([⟨⟨1, u, n, 0, 0, [], []⟩, (none, 0), (none, 0)⟩] : List Px)).length)) [] [0, 0, 0] hfin rfl (by repeat' (first | exact trivial | rfl | apply And.intro)) trivial ⟨rfl, rfl⟩
    · conv => whnf
      have hne : l ≠ [] := fun e => h0 (by rw [e]; rfl)
      have hpn : piecesN b = l.length := by
        unfold piecesN
        rw [← hll]
        have : 0 < l.length := List.length_pos_iff.2 hne
        omega
      have ecut : cutP u n b = ((List.range (piecesN b)).map (pieceAt u n b (piecesN b)), 0) := by unfold cutP; rw [if_pos hu, if_neg (by omega)]
      rw [ecut]
      have ec : (l.map (·.tt l.length)).map (·.c) = (List.range (piecesN b)).map (pieceAt u n b (piecesN b)) := by
        rw [hpn, List.map_map]
        have e2 : (l.map (·.c)).map (fun c => ({ c with t := (l.length : Int) } : Pc)) = (List.range (chunkN b.length 240)).map (pieceAt u n b l.length) := by
          rw [hm, List.map_map]; rfl
        rw [List.map_map] at e2
        rw [hll] at e2 ⊢
        exact e2
      have hfin : Fc a cap (l.map (·.tt l.length)) ∧ Pxs (l.map (·.tt l.length)) ∧ (l.map (·.tt l.length)).map (·.c) = (List.range (piecesN b)).map (pieceAt u n b (piecesN b)) := by
        refine ⟨⟨by rw [List.length_map]; exact hc.1, fun e => by rw [hc.2 e]; rfl⟩, ⟨fun q hq => ?_, fun q hq => ?_⟩, ec⟩
        · obtain ⟨q', hq', rfl⟩ := List.mem_map.1 hq; exact hp.f q' hq'
        · obtain ⟨q', hq', rfl⟩ := List.mem_map.1 hq; exact hp.y q' hq'
      have hlen : (l).length ≤ 8 := by first | (exact Nat.le_of_ble_eq_true rfl) | omega
      refine LoopOb.mk' (σ := Nat) (fun j => [(8, .c (.ptr 8 0)), (40, .c (.int .i64 (l).length)), (41, .c (.int .i64 j))])
        (fun j => ⟨[(1000000, r), (8, b8), (4, b4), (3, b3)], [(8, [.one (.rs a (l).length cap)], 43), (4, [.one (.int .u32 n)], 22), (3, [.one (.int .i64 u)], 3)], [Own a cap 31 7 (rowP (updP (l) (l).length j)), ows (l), A, Mk r]⟩)
        (fun j => j ≤ (l).length) (fun j => (l).length - j) 0 (Nat.zero_le _) (Wk.mk' [8, 4, 3] [2, 2, 2, 2] ⟨⟨rfl, (by repeat' (first | exact trivial | rfl | apply And.intro))⟩, ⟨rfl, (by repeat' (first | exact trivial | rfl | apply And.intro))⟩, ⟨rfl, (by repeat' (first | exact trivial | rfl | apply And.intro))⟩, trivial⟩ (by repeat' (first | exact trivial | rfl | apply And.intro)) ⟨rfl, rfl⟩) ?_
      intro j hj
      conv => whnf
      refine Cond.dec (fun h => ?_) (fun h => ?_)
      · have hj' : j < (l).length := by omega
        conv => whnf
        refine ⟨by omega, ?_⟩
        conv => whnf
        refine PtrOb.rd (A := Own a cap 31 7 (rowP (updP (l) (l).length j))) (by simp) Own.rd (by rw [rowP_len, updP_len _ _ _ hj]; omega) fun p hp => ?_
        conv => whnf
        rw [hp]
        refine st_own (j := j * 7 + 4) (ys := [.int .i64 (l).length]) (.refl _) rfl (by show p.2 + (j : Int).toNat * 7 + 4 = p.2 + (j * 7 + 4); omega) rfl rfl (by simp [Value.oneCell']) (by rw [rowP_len, updP_len _ _ _ hj]; show j * 7 + 4 + 1 ≤ _; omega) ?_
        rw [← hp]
        conv => whnf
        refine Ar.i64 (by omega) ?_
        conv => whnf
        refine ⟨j + 1, by omega, by omega, Wk.mk' [8, 4, 3] [0, 0, 0, 0] ⟨⟨rfl, (by repeat' (first | exact trivial | rfl | apply And.intro))⟩, ⟨rfl, (by repeat' (first | exact trivial | rfl | apply And.intro))⟩, ⟨rfl, (by repeat' (first | exact trivial | rfl | apply And.intro))⟩, trivial⟩ (by repeat' (first | exact trivial | rfl | apply And.intro)) ⟨rfl, ?_⟩⟩
        show [Own a cap 31 7 ((rowP (updP (l) (l).length j)).take (j * 7 + 4) ++ ([Value.int .i64 (l).length] ++ (rowP (updP (l) (l).length j)).drop (j * 7 + 4 + 1))), ows (l), A, Mk r] = _
        rw [rowP_tt hj']
      · have hj' : j = (l).length := by omega
        subst hj'
        rw [updP_all]
        conv => whnf
        refine .one 3 r rfl ⟨rfl, ?_⟩
        conv => whnf
        rw [← ows_tt (l) (l).length]
        exact Ret.mk' ((a, cap), (l).map (·.tt (l).length)) [] [0, 0, 0] hfin (by rw [List.length_map]; rfl) (by repeat' (first | exact trivial | rfl | apply And.intro)) trivial ⟨rfl, rfl⟩
end Go.Proofs.Ytiimeklgjoclpaa
