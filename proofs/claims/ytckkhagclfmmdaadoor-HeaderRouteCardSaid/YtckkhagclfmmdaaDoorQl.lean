import Derived.Test.YtckkhagclfmmdaaDoorQk
namespace Go.Proofs.YtckkhagclfmmdaaDoor
open Go.Sx
set_option maxRecDepth 100000
set_option linter.unusedVariables false
set_option pp.deepTerms false
set_option pp.maxSteps 300
set_option linter.unusedSimpArgs false
section
instance decCmd : DecidableEq Cmd:=fun a b =>
  if h : a.k = b.k ∧ a.n = b.n ∧ a.d = b.d ∧ a.id = b.id then isTrue (by obtain ⟨h1,h2,h3,h4⟩:=h;cases a;cases b;simp_all) else isFalse (fun e=>h (by rw [e];exact ⟨rfl,rfl,rfl,rfl⟩))
def ke1 : List UInt8:=1 :: List.replicate 31 0
def ke2 : List UInt8:=2 :: List.replicate 31 0
def zA1 : List UInt8:=leB 52573937849532372069814888178136277301931757964231753054399601207743438775599 32
def zA2 : List UInt8:=leB 52573937849532372069814888178136277301931757964231753054399601207743438775599 32
def zA9 : List UInt8:=leB 54815864700279561125610391355931320566748822376190344121911385527384361806914 32
def zS0 : List UInt8:=leB 42370478205758932640776152869436718240747418584481667750212255313236040334817 32
def zB0 : List UInt8:=leB 3572659654231293470424235547382589641759530812636540955536668653682009241797 32
def zL1 : List UInt8:=leB 2144007615752421670517733541057234634644244465885597299493727472289149861830 32
def zS1 : List UInt8:=leB 26993047913743311317157453402529065181619561817725741992992811256530496030353 32
def zB1 : List UInt8:=leB 21157337418661246010891372009898202970720087190796998496755707491698780155199 32
def zL2 : List UInt8:=leB 12169147327259874505920936572519716677555745414116684203056816227386775596918 32
def zR0 : List UInt8:=leB 72263433539782487314720228617747495231624080702682500459224198304790293920101 32
def zR1 : List UInt8:=leB 110341287310495409784990756323574808566251081749606388771211756532622215486356 32
def zM0 : List UInt8:=leB 6428164437016489136450316005417158623859621156420059036370134484253475594842 32
def zM1 : List UInt8:=leB 88416025899569200839136590439591614271086478076056439489562131932211047915817 32
def zT0 : List UInt8:=leB 7596154005098601494926314856913038765611140505882743545575484882972452056571011197083744616515368731157800623400039200224377269035925174534409991574181518669572156273567449694364991807238850588482397315779062835215454623859010213525907188259897743052926330428314321985579905361086977331115381560485192452098693204345456916930005946163120048442264596620365656001073399468673851676065947240669927201172691689153219940395979037812692636488283735955255313016258546 192
def zT1 : List UInt8:=leB 1232732293462368786291908635632048278369237752824924342811298167795834479528962162636129968895964300263792502804777096284861526557107336697744246105374872842224149248312587143276911527954093458235828275395008074422101435232139244439337210307004304650913028045628757150073706016519489666793450742562507816597059445909873976639180475303609778986556110613913172561298239735036077947982600699710851287394985434835452828204347273742416613963148892992782758284261904024 192
def zE0 : List UInt8:=leB 65601666358487267824347206165503025555332801978331102793084953056236466177720736489230892517731581027500325104356447557948308132622784309880319528803202605847303152256980544730982877228918905159133017375776029520492178160710785012349260854858878997535878578753783977788460337938140359879595217024887372679392636535184339985800244882952615478213507933018875848053060149508470597274522 160
def zG1 : List UInt8:=leB 54260827986886688751123670465903857706 16
def zE1 : List UInt8:=leB 15965490044824382917430240040255893845864946830869705530151305317335952879609884877777356439805776826060329511097023495161654518945228424304588923352839610798581127585227019496871681343718354500768852853728218106564740421301515049913708286093430777803069589557804063555985556370318731917487003577568821351455657024255565872433766209959963000864032956902832230603704346786319611375615219 160
def zG0 : List UInt8:=leB 281482073784356593437008780744498839199 16
def zO0 : List UInt8:=leB 7596154005098601494926314856913038765611140505882743545575484882972452056576527324693111173489798239757751177529088202340262158720499187442492575186086218833576557108435879660073283604961559261493678674042842883805747000052689155681586347194176882693787105866162207701257213129664682287988257419113519425659649698775456555187891380329227536348827215393363041204984609346014701126541391479961876241085184688945764401395351762147574598274886770551395307166368513 192
def zO1 : List UInt8:=leB 1232732293462368786291908635632048278369237752824924342811298167795834479528962138960989496239141046286543474729676131006414545515830655162238313860025991183399932227233371577635369044625411257333046134071675090534772893799909206950014329191920380054416798199751244280806317758116488306888944156760952117150081325875650253549305819793493787294880528971436640070525309352179153788037855519766577469843427505163437818289488094316049393769651230116489127980643124482 192
def cm1 : Cmd:=⟨1,3,1,id0⟩
def cm2 : Cmd:=⟨2,5,0,id0⟩
def hopA : List HopS:=[⟨q01 ke1,cm1⟩,⟨q01 ke2,cm2⟩]
theorem f_A1 : q01 ke1 = zA1:=by decide +kernel
theorem f_A2 : q01 ke2 = zA2:=by decide +kernel
theorem f_A9 : q01 nineS = zA9:=by decide +kernel
theorem f_S0 : q05 zA1 [nineS] = (zS0,0):=by decide +kernel
theorem f_B0 : q08 zS0 zA9 = zB0:=by decide +kernel
theorem f_L1 : q00 zB0 zA9 = (zL1,0):=by decide +kernel
theorem f_S1 : q05 zA2 [nineS,zB0] = (zS1,0):=by decide +kernel
theorem f_B1 : q08 zS1 zL1 = zB1:=by decide +kernel
theorem f_L2 : q00 zB1 zL1 = (zL2,0):=by decide +kernel
theorem f_R0 : q0h zS0 [114,104,111] = zR0:=by decide +kernel
theorem f_R1 : q0h zS1 [114,104,111] = zR1:=by decide +kernel
theorem f_M0 : q0h zS0 [109,117] = zM0:=by decide +kernel
theorem f_M1 : q0h zS1 [109,117] = zM1:=by decide +kernel
theorem f_T0 : q0b zS0 = zT0:=by
  unfold q0b;rw [f_R0];decide +kernel
theorem f_T1 : q0b zS1 = zT1:=by
  unfold q0b;rw [f_R1];decide +kernel
theorem f_fil : q0n [zS0,zS1] = zT0.drop 160:=by
  show xorB ([] ++ List.replicate 32 0) ((q0b zS0).drop (192 - (0 + 32))) = _;rw [f_T0];decide +kernel
theorem f_E0 : betaJ [zS0,zS1] hopA 0 = zE0:=by
  show xorB (cm2.enc.1 ++ List.replicate (160 - (q0n [zS0,zS1]).length - 16) 0) (q0b zS1) ++ q0n [zS0,zS1] = _;rw [f_fil,f_T1];decide +kernel
theorem f_G1 : q0f zS1 zE0 = zG1:=by
  unfold q0f;rw [f_M1];decide +kernel
theorem f_E1 : betaJ [zS0,zS1] hopA 1 = zE1:=by
  show xorB (cm1.enc.1 ++ (q0f zS1 (betaJ [zS0,zS1] hopA 0) ++ (betaJ [zS0,zS1] hopA 0).take 128)) (q0b zS0) = _;rw [f_E0,f_G1,f_T0];decide +kernel
theorem f_G0 : q0f zS0 zE1 = zG0:=by
  unfold q0f;rw [f_M0];decide +kernel
theorem f_O0 : openB zS0 zE1 = zO0:=by
  unfold openB;rw [f_T0];decide +kernel
theorem f_O1 : openB zS1 zE0 = zO1:=by
  unfold openB;rw [f_T1];decide +kernel
theorem f_D0 : decC (zO0.take 16) = (cm1,0):=by decide +kernel
theorem f_D1 : decC (zO1.take 16) = (cm2,0):=by decide +kernel
theorem f_N0 : (zO0.drop 32).take 160 = zE0 ∧ (zO0.drop 16).take 16 = zG1:=by decide +kernel
theorem f_K1 : q00 ke1 zA9 = (zS0,0):=by decide +kernel
theorem f_K2 : q00 ke2 zL1 = (zS1,0):=by decide +kernel
theorem qfm : q0p hopA = true ∧ q0p (hopA.take 1) = false:=by decide +kernel
attribute [local irreducible] macD q0h strS q0b q00 q05 q0v q0c q01 q08 openB q0f decC q0p q0n
theorem qfb : q0j nineS hopA = ([zS0,zS1],0):=by
  unfold q0j hopA;rw [f_A1,f_A2,f_A9];have e1 : (q05 (HopS.mk zA1 cm1).key [nineS]).2 = 0:=by rw [f_S0]
  have e2 : (q00 (q08 (q05 (HopS.mk zA1 cm1).key [nineS]).1 zA9) zA9).2 = 0:=by rw [f_S0,f_B0,f_L1]
  rw [q4k e1 e2];have g1 : (q05 (HopS.mk zA1 cm1).key [nineS]).1 = zS0:=by rw [f_S0]
  rw [g1,f_B0,f_L1];show q1y [nineS,zB0] zL1 [zS0] _ = _;have e3 : (q05 (HopS.mk zA2 cm2).key [nineS,zB0]).2 = 0:=by rw [f_S1]
  have e4 : (q00 (q08 (q05 (HopS.mk zA2 cm2).key [nineS,zB0]).1 zL1) zL1).2 = 0:=by rw [f_S1,f_B1,f_L2]
  rw [q4k e3 e4];have g2 : (q05 (HopS.mk zA2 cm2).key [nineS,zB0]).1 = zS1:=by rw [f_S1]
  rw [g2];rfl
theorem qjj : q1d nineS hopA = (⟨zA9,zE1,zG0⟩,[zS0,zS1],0):=by
  rw [q76 qfm.1 (by rw [qfb]),qfb];show (HdrS.mk (q01 nineS) (betaJ [zS0,zS1] hopA 1) (q0f zS0 (betaJ [zS0,zS1] hopA 1)),_,_) = _;rw [f_A9,f_E1,f_G0]
theorem qhf : q1d nineS (hopA.take 1) = (hdr0,[],14):=q7x qfm.2
theorem qj6 : q0w ke1 ⟨zA9,zE1,zG0⟩ = (⟨cm1,⟨zL1,zE0,zG1⟩,zS0,tagH zS0⟩,0):=by
  rw [uw_b (by rw [f_K1]),f_K1];rw [uw_d f_G0];rw [uw_f (by rw [f_O0,f_D0])];rw [uw_h (by rw [f_B0,f_L1])];rw [f_O0,f_D0,f_B0,f_L1,f_N0.1,f_N0.2]
theorem qlf : ∃ n,q0w ke2 ⟨zL1,zE0,zG1⟩ = (⟨cm2,n,zS1,tagH zS1⟩,0):=by
  refine ⟨⟨zL2,(zO1.drop 32).take 160,(zO1.drop 16).take 16⟩,?_⟩;rw [uw_b (by rw [f_K2]),f_K2];rw [uw_d f_G1];rw [uw_f (by rw [f_O1,f_D1])];rw [uw_h (by rw [f_B1,f_L2])];rw [f_O1,f_D1,f_B1,f_L2]
end
section
attribute [local irreducible] macD q0h strS q0b q00 q05 q0v q0c q01 q08 openB q0f decC q0p q0n q1d q0w tagH leB
theorem qfg (own : List UInt8) {h : HdrS} (o : h.ok) {s : StepS} {e : Int} (q : q0w own h = (s,e)) : s.ok:=by have:=q8j own o;rw [q] at this;exact this
theorem qkw (A : HP) (hK : Gl A) : Pu Tryd.prog 4 [] A (.c .tt):=by
  have h9 : nineS.length = 32:=qdc;have k1l : ke1.length = 32:=by decide
  have k2l : ke2.length = 32:=by decide
  have p1l:=q1h ke1;have p2l:=q1h ke2
  have hops : okHs hopA:=by
    intro h hh;simp only [hopA,List.mem_cons,List.not_mem_nil,or_false] at hh
    rcases hh with rfl | rfl
    · exact ⟨p1l,rfl⟩
    · exact ⟨p2l,rfl⟩
  have hops1 : okHs (hopA.take 1):=q7m hops 1;have hb:=qjj;have o1 : (HdrS.mk zA9 zE1 zG0).ok:=by have:=(q7f nineS hops).1;rw [hb] at this;exact this
  refine Con.of' tt_ok Tryd.func4 rfl (by decide) [] [] [] rfl rfl trivial trivial rfl ?_;(conv=>whnf);intro b1;(conv=>whnf);intro b2;(conv=>whnf);have hz8 : ∀ v ∈ (List.replicate 8 (Value.int .u8 0)),Value.oneCell' v = true:=fun v hv=>by rw [(List.mem_replicate.1 hv).2];rfl
  have erow : ∀ B : Names,(dens B ((HopS.mk (q01 ke1) cm1).sg ++ (HopS.mk (q01 ke2) cm2).sg)).take (2 * 43) = rowH hopA:=fun B=>by
    have e : dens B ((HopS.mk (q01 ke1) cm1).sg ++ (HopS.mk (q01 ke2) cm2).sg) = rowH hopA:=by
      show _ = HopS.cs _ ++ (HopS.cs _ ++ [])
      simp [HopS.cs,dens,Seg.den,SC.den]
    rw [e,List.take_of_length_le (by rw [q2d hops];decide)]
  refine Draw.cut (σ:=Nat) (fun b=>[(1,.c (.ptr 1 0)),(2,.c (.ptr 2 0)),(3,.c (.rs (some (radr (b,0))) 2 2))])
    (fun b=>⟨[(2,b2),(1,b1)],[(2,[.many 32 (u8s ke2)],23),(1,[.many 32 (u8s ke1)],23)],[Own (some (radr (b,0))) 2 37 43 (rowH hopA),A]⟩) (fun _=>True) ?_ ?_
  · refine Draw.a (by kernel_rfl) tt_ok (Tv.of [0,2,4,6,1,3,5,7,8,9] .nil) 1000000 (by kernel_rfl) ?_;(conv=>whnf);refine Cq.pu (q4y _ ke1 k1l) rfl ?_;(conv=>whnf);refine Sub.whole ?_;(conv=>whnf);refine Cq.pu (q4y _ ke2 k2l) rfl ?_;(conv=>whnf);refine Sub.whole ?_;(conv=>whnf);intro b24;(conv=>whnf);refine Sub.r [2,1] [0] ?_;conv=>whnf
    refine ⟨b24,trivial,Wk.own 24 2 2 43 ⟨_,_,rfl,⟨by show 32 + (1 + (1 + (1 + (8 + (32 + (1 + (1 + (1 + (8 + 0))))))))) = 2 * 43;rfl,Nat.le_refl _⟩,⟨mok p1l _,trivial,trivial,trivial,⟨rfl,hz8⟩,mok p2l _,trivial,trivial,trivial,⟨rfl,hz8⟩,trivial⟩,?_⟩⟩;exact Wk.m [2,1] [0,0] kk ⟨⟨kk,mok k2l _,trivial⟩,⟨kk,mok k1l _,trivial⟩,trivial⟩ ⟨rfl,by rw [← erow [(24,b24),(2,b2),(1,b1)]];rfl⟩
  intro b24 _;(conv=>whnf);refine Cq.new (qb6 _ (Own (some (radr (b24,0))) 2 37 43 (rowH hopA)) (Ent.a mm) (hK.ent (Ent.a mm)) nineS h9 (some (radr (b24,0))) 2 hopA hops Own.rd (by decide)) rfl ?_;rw [hb];rintro ⟨a5,c5⟩ hf5;dsimp only at hf5 ⊢;have C1:=fun A (hK : Gl A)=>q9n A hK ke1 k1l _ o1;simp only [qj6] at C1;have o2:=qfg ke1 o1 qj6;obtain ⟨n2,hn2⟩:=qlf;have C2:=fun A (hK : Gl A)=>q9n A hK ke2 k2l _ o2.n;simp only [hn2] at C2;have o3:=qfg ke2 o2.n hn2;generalize tagH zS0 = tg1 at o2 C1 C2
  generalize tagH zS1 = tg2 at o3 C2;(conv=>whnf);intro b4;(conv=>whnf);refine Cond.neI (fun h=>absurd rfl h) (fun _=>?_);(conv=>whnf);refine Cond.neI (fun h=>absurd rfl h) (fun _=>?_);(conv=>whnf);refine Cq.pu (C1 _ (hK.ent (Ent.a mm))) rfl ?_;(conv=>whnf);intro b7;(conv=>whnf);refine Cq.pu (C2 _ (hK.ent (Ent.a mm))) rfl ?_;(conv=>whnf);intro b9;(conv=>whnf);refine ⟨by decide,?_⟩;conv=>whnf
  have hrd1 : Rd (Own (some (radr (b24,0))) 2 37 43 (rowH hopA)) (some (radr (b24,0))) (rowH (hopA.take 1)):=by
    have h2:=(Own.rd (a:=some (radr (b24,0))) (cap:=2) (e:=37) (size:=43) (xs:=rowH hopA)).cutS 2 0 1 43 (by decide);rw [qct,Nat.zero_mul,List.drop_zero] at h2
    have e : (rowH hopA).take (1 * 43) = rowH (hopA.take 1):=by
      have hl : (rowH (hopA.take 1)).length = 43:=by rw [q2d hops1];rfl
      have e2 : rowH hopA = rowH (hopA.take 1) ++ rowH (hopA.drop 1):=by rw [← q4m,List.take_append_drop]
      rw [e2,show 1 * 43 = (rowH (hopA.take 1)).length by omega,List.take_left]
    rw [e] at h2;exact h2
  refine Cq.new (qb6 _ (Own (some (radr (b24,0))) 2 37 43 (rowH hopA)) (Ent.a mm) (hK.ent (Ent.a mm)) nineS h9 (some (radr (b24,0))) 2 (hopA.take 1) hops1 hrd1 (by decide)) rfl ?_;rw [qhf];rintro ⟨a12,c12⟩ hf12;dsimp only at hf12 ⊢;(conv=>whnf);intro b11;(conv=>whnf);refine Draw.a (by kernel_rfl) tt_ok (Tv.of (List.range 51) .nil) 1000000 (by kernel_rfl) ?_;(conv=>whnf);have w1 : cm1.wf:=⟨rfl,rfl,rfl,rfl⟩;have w2 : cm2.wf:=⟨rfl,rfl,rfl,rfl⟩;refine Cond.eqI (fun _=>?_) (fun h=>absurd rfl h);conv=>whnf
  refine Cond.eqI (fun _=>?_) (fun h=>absurd rfl h);(conv=>whnf);refine ⟨by decide,PtrOb.at ?_⟩;(conv=>whnf);refine ldhc (A:=Own (some (radr (b24,0))) 2 37 43 (rowH hopA)) (l:=hopA) 0 (by simp) Own.rd hops (by decide) rfl rfl rfl rfl ?_;(conv=>whnf);refine qb8 w1 w1 (by rfl) (by rfl) fun b hbb=>?_;obtain rfl : b = true:=hbb.2 rfl;(conv=>whnf);refine ⟨(fun _=>?_),(fun e=>nomatch e)⟩;(conv=>whnf);refine ⟨by decide,PtrOb.at ?_⟩;conv=>whnf
  refine ldhc (A:=Own (some (radr (b24,0))) 2 37 43 (rowH hopA)) (l:=hopA) 1 (by simp) Own.rd hops (by decide) rfl rfl rfl rfl ?_;(conv=>whnf);refine qb8 w2 w2 (by rfl) (by rfl) fun b hbb=>?_;obtain rfl : b = true:=hbb.2 rfl;(conv=>whnf);refine ⟨(fun _=>?_),(fun e=>nomatch e)⟩;conv=>whnf
  have hok2 : okK [zS0,zS1]:=by
    have:=(q7f nineS hops).2.1;rw [hb] at this;exact this
  refine ⟨by decide,PtrOb.rd (A:=RowK a5 c5 23 [zS0,zS1]) (by simp) Own.rd (by rw [q0q hok2];decide) fun p5 hp5=>?_⟩;subst hp5;(conv=>whnf);refine ldk (A:=RowK (some (radr p5)) c5 23 [zS0,zS1]) (l:=[zS0,zS1]) 0 (by simp) Own.rd hok2 (by decide) rfl rfl rfl rfl ?_;(conv=>whnf);refine qb2 (l:=zS0) (m:=zS0) o2.s o2.s (by simp [dens,Seg.den]) (by simp [dens,Seg.den]) ?_;(conv=>whnf);refine Cond.d (fun _=>?_) (fun h=>absurd rfl h);(conv=>whnf);refine ⟨by decide,PtrOb.at ?_⟩;conv=>whnf
  refine ldk (A:=RowK (some (radr p5)) c5 23 [zS0,zS1]) (l:=[zS0,zS1]) 1 (by simp) Own.rd hok2 (by decide) rfl rfl rfl rfl ?_;(conv=>whnf);refine qb2 (l:=zS1) (m:=zS1) o3.s o3.s (by simp [dens,Seg.den]) (by simp [dens,Seg.den]) ?_;(conv=>whnf);refine Cond.d (fun _=>?_) (fun h=>absurd rfl h);(conv=>whnf);refine Cond.eqI (fun _=>?_) (fun h=>absurd rfl h);(conv=>whnf);refine Cq.fb (qh8 _ _ o1) rfl fun a106 c106 hc106=>?_;(conv=>whnf);refine Sub.r [11,9,7,4,2,1] [1,1,1,1] ?_;(conv=>whnf);have hel:=qd6 o1
  refine Ret.m () [] [4] trivial ?_ kk kk ⟨rfl,rfl⟩;show Value.bool (((encH ⟨zA9,zE1,zG0⟩).length : Int) == 208) = Value.bool true;rw [hel];rfl
end
end Go.Proofs.YtckkhagclfmmdaaDoor
