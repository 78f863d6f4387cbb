/- Parts put together: slices.Concat. -/
import Derived.Test.YtiimeklgjoclpaaGm
namespace Go.Proofs.Ytiimeklgjoclpaa
open Go.Sx
set_option maxRecDepth 100000
set_option pp.deepTerms false
set_option pp.maxSteps 300
set_option linter.unusedSimpArgs false
set_option linter.unusedVariables false

theorem own_take {a : Option Addr} {cap e size : Nat} {xs : List Value} (k : Nat) : ∀ g, Own a cap e size xs g → Own a cap e size (xs.take k) g := by
  rintro g (⟨h1, h2, h3⟩ | ⟨b, junk, fz, h1, h2, h3, h4, h5⟩)
  · exact .inl ⟨h1, h2, by rw [h3, List.take_nil]⟩
  · refine .inr ⟨b, xs.drop k ++ junk, fz, h1, by rw [← List.append_assoc, List.take_append_drop]; exact h2, ?_, h4, ?_⟩
    · rw [← h3, List.length_append, List.length_take, List.length_drop]; omega
    · rw [← List.append_assoc, List.take_append_drop]; exact h5
theorem cap_ob {t e ty n c : Nat} {x : SV} {a : Option Addr} {B : Names} {H : List Chunk} {F : List HProp} {f : SV → M → Prop} (hu : Try.prog.underlying t = some (.slice e)) (hx : x.den B = .slice a n c) (h : f (.c (.int .i64 c)) ⟨B, H, F⟩) :
    RunOb Try.prog (Builtin.cap_ #[t] ty ([x].map (SV.den B)).toArray) ⟨B, H, F⟩ f := by
  refine ⟨fun km w hs => ⟨.int .i64 c, w, ?_, .c (.int .i64 c), ⟨B, H, F⟩, rfl, trivial, km, hs, .inl rfl, h⟩⟩
  show (Builtin.cap_ #[t] ty #[x.den B]).run Try.prog w = _
  rw [hx]
  simp [Builtin.cap_, run_underlying hu, goInt]
theorem grow_c (A : HProp) (n : Nat) (hn : n ≤ 1000000) : Con Try.prog 64 [.c (.rs none 0 0), .c (.int .i64 n)] [] [] A (fun t : AC => Fc t.1 t.2 ([] : List UInt8)) (fun t => .c (.rs t.1 0 t.2)) (fun _ => []) (fun t => [Own t.1 t.2 5 1 (u8s [])]) := by
  refine Con.of' tt_ok Try.func64 rfl (by decide) [.c (.rs none 0 0), .c (.int .i64 n)] [] [] rfl rfl trivial (by repeat' (first | exact trivial | rfl | apply And.intro)) rfl ?_
  conv => whnf
  refine Cond.dec (fun h => absurd h (by omega)) (fun h => ?_)
  conv => whnf
  refine cap_ob (a := none) (n := 0) (c := 0) Try.underlying23 rfl ?_
  conv => whnf
  refine Ar.i64 (by decide) ?_
  conv => whnf
  refine Ar.to (n : Int) (by omega) (Ar.i64 (by omega) ?_)
  conv => whnf
  refine Cond.dec (fun h1 => ?_) (fun h1 => ?_)
  · conv => whnf
    refine cap_ob (a := none) (n := 0) (c := 0) Try.underlying23 rfl ?_
    conv => whnf
    refine ⟨by decide, ?_⟩
    conv => whnf
    refine With.own0 5 1 ?_
    refine app0 (a := none) (l := []) (k := n) (.refl _) rfl (by decide) rfl (by simp; omega) (kk := .i64) rfl fun a' c' hc' => ?_
    conv => whnf
    have hl : n ≤ c' := by have := hc'.1; simpa using this
    refine ⟨by omega, ?_⟩
    conv => whnf
    refine Ret.turn (F' := [Own a' c' 5 1 (u8s []), A]) (fun g s => seps_imp (fun g' h' => ?_) s) ?_
    · have := own_take 0 g' h'
      rwa [List.take_zero] at this
    exact Ret.mk' (a', c') [] [0, 0] ⟨Nat.zero_le _, fun _ => rfl⟩ (by
      show Value.slice (cutA a' (c' : Int).toNat 0 1) _ _ = Value.slice a' 0 c'
      rw [cutA0]; rfl) (by repeat' (first | exact trivial | rfl | apply And.intro)) trivial ⟨rfl, rfl⟩
  · conv => whnf
    refine Ret.own0 5 1 ?_
    exact Ret.mk' (none, 0) [] [0, 0] .nil rfl (by repeat' (first | exact trivial | rfl | apply And.intro)) trivial ⟨rfl, rfl⟩
/-- A part, if it has come. -/
def Sl.l (s : Sl) : List UInt8 := s.b.getD []
def slices (ss : List Sl) : List UInt8 := (ss.map Sl.l).flatten
structure CS where
  i : Nat
  a : AC
theorem concat_c (A : HProp) (a : AC) (ss : List Sl) (hr : Rd A a.1 (ss.map Sl.v)) (hb : ∀ s ∈ ss, Bts A s.x.1 s.x.2 s.l) (hl : (slices ss).length ≤ 1000000) (hs : ss.length ≤ 1000000) :
    FB Try.prog 48 [.c (.rs a.1 ss.length a.2)] A 5 (slices ss) := by
  have hle : ∀ i, (slices (ss.take i)).length ≤ (slices ss).length := by
    intro i
    have : slices ss = slices (ss.take i) ++ slices (ss.drop i) := by unfold slices; rw [← List.flatten_append, ← List.map_append, List.take_append_drop]
    rw [this, List.length_append]; omega
  have hst : ∀ i (h : i < ss.length), slices (ss.take (i + 1)) = slices (ss.take i) ++ ss[i].l := by
    intro i h
    unfold slices; rw [List.take_succ_eq_append_getElem h, List.map_append, List.flatten_append]; simp only [List.map_cons, List.map_nil, List.flatten_cons, List.flatten_nil, List.append_nil]
  refine Con.of' tt_ok Try.func48 rfl (by decide) [.c (.rs a.1 ss.length a.2)] [] [] rfl rfl trivial (by repeat' (first | exact trivial | rfl | apply And.intro)) rfl ?_
  conv => whnf
  refine LoopOb.mk' (σ := Nat) (fun i => [(0, .c (.rs a.1 ss.length a.2)), (9, .c (.rs a.1 ss.length a.2)), (10, .c (.int .i64 ss.length)), (11, .c (.int .i64 i)), (3, .c (.int .i64 (slices (ss.take i)).length))])
    (fun _ => ⟨[], [], [A]⟩) (fun i => i ≤ ss.length) (fun i => ss.length - i) 0 (Nat.zero_le _) (Wk.mk' [] [0] ⟨⟨rfl, trivial⟩, ⟨rfl, trivial⟩, ⟨rfl, trivial⟩, ⟨rfl, trivial⟩, ⟨rfl, trivial⟩, trivial⟩ (by repeat' (first | exact trivial | rfl | apply And.intro)) ⟨rfl, rfl⟩) ?_
  intro i hi
  conv => whnf
  have hti := hle i
  refine Cond.dec (fun h => ?_) (fun h => ?_)
  · have hi' : i < ss.length := by omega
    have hti1 := hle (i + 1)
    rw [hst i hi', List.length_append] at hti1
    conv => whnf
    refine ⟨by omega, PtrOb.rd (A := A) (by simp) hr (by rw [List.length_map]; omega) fun p hp => ?_⟩
    conv => whnf
    refine ld (A := A) i (.rs ss[i].x.1 ss[i].l.length ss[i].x.2) rfl (by simp) (hp ▸ hr) rfl (by show p.2 + (i : Int).toNat * 1 = p.2 + i; omega) (by rw [List.getElem?_map, List.getElem?_eq_getElem hi']; rfl) trivial ?_
    conv => whnf
    refine Ar.i64 (by omega) ?_
    conv => whnf
    refine Cond.dec (fun h0 => absurd h0 (by omega)) (fun h0 => ?_)
    conv => whnf
    refine Ar.i64 (by omega) ?_
    conv => whnf
    refine ⟨i + 1, by omega, by omega, Wk.mk' [] [0] ⟨⟨rfl, trivial⟩, ⟨rfl, trivial⟩, ⟨rfl, trivial⟩, ⟨rfl, trivial⟩, ⟨?_, trivial⟩, trivial⟩ (by repeat' (first | exact trivial | rfl | apply And.intro)) ⟨rfl, rfl⟩⟩
    show Value.int .i64 ((slices (ss.take i)).length + ss[i].l.length : Int) = Value.int .i64 ((slices (ss.take (i + 1))).length : Int)
    rw [hst i hi', List.length_append]; push_cast; rfl
  have hi' : i = ss.length := by omega
  subst hi'
  rw [List.take_length]
  conv => whnf
  refine CallOb.new (grow_c _ (slices ss).length hl) rfl fun t ht => ?_
  conv => whnf
  refine LoopOb.mk' (σ := CS) (fun s => [(25, .c (.rs a.1 ss.length a.2)), (26, .c (.int .i64 ss.length)), (27, .c (.int .i64 s.i)), (6, .c (.rs s.a.1 (slices (ss.take s.i)).length s.a.2))])
    (fun s => ⟨[], [], [Own s.a.1 s.a.2 5 1 (u8s (slices (ss.take s.i))), A]⟩) (fun s => s.i ≤ ss.length ∧ Fc s.a.1 s.a.2 (slices (ss.take s.i))) (fun s => ss.length - s.i) ⟨0, t⟩ ⟨Nat.zero_le _, ht⟩ (Wk.mk' [] [0, 0] ⟨⟨rfl, trivial⟩, ⟨rfl, trivial⟩, ⟨rfl, trivial⟩, ⟨rfl, trivial⟩, trivial⟩ (by repeat' (first | exact trivial | rfl | apply And.intro)) ⟨rfl, rfl⟩) ?_
  rintro ⟨i, a1, c1⟩ ⟨hi, hc⟩
  dsimp only at hi hc ⊢
  have hti := hle i
  conv => whnf
  refine Cond.dec (fun h => ?_) (fun h => ?_)
  · have hi' : i < ss.length := by omega
    have hti1 := hle (i + 1)
    have hsi := hst i hi'
    rw [hsi, List.length_append] at hti1
    conv => whnf
    refine ⟨by omega, PtrOb.rd (A := A) (by simp) hr (by rw [List.length_map]; omega) fun p hp => ?_⟩
    conv => whnf
    refine ld (A := A) i (.rs ss[i].x.1 ss[i].l.length ss[i].x.2) rfl (by simp) (hp ▸ hr) rfl (by show p.2 + (i : Int).toNat * 1 = p.2 + i; omega) (by rw [List.getElem?_map, List.getElem?_eq_getElem hi']; rfl) trivial ?_
    conv => whnf
    refine appb (l := slices (ss.take i)) (m := ss[i].l) (.refl _) (Src.rs (A := A) (by simp) (hb ss[i] (List.getElem_mem hi')).1) rfl rfl (by decide) (by omega) 23 (.inr rfl) fun a2 c2 hc2 => ?_
    rw [← hsi] at hc2 ⊢
    conv => whnf
    refine Ar.i64 (by omega) ?_
    conv => whnf
    exact ⟨⟨i + 1, a2, c2⟩, ⟨by dsimp only; omega, hc2⟩, by dsimp only; omega, Wk.mk' [] [0, 0] ⟨⟨rfl, trivial⟩, ⟨rfl, trivial⟩, ⟨rfl, trivial⟩, ⟨rfl, trivial⟩, trivial⟩ (by repeat' (first | exact trivial | rfl | apply And.intro)) ⟨rfl, rfl⟩⟩
  have hi' : i = ss.length := by omega
  subst hi'
  rw [List.take_length] at hc ⊢
  conv => whnf
  exact Ret.mk' (a1, c1) [] [0, 0] hc rfl (by repeat' (first | exact trivial | rfl | apply And.intro)) trivial ⟨rfl, rfl⟩
end Go.Proofs.Ytiimeklgjoclpaa
