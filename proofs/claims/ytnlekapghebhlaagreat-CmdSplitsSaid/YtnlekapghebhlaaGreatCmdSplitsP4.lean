/-
  Part 4 of the texts under the law CmdSplits: the layer of abstract values, walks and plain laws. Conditions: those that each theorem names.
-/
import Derived.Test.YtnlekapghebhlaaGreatCmdSplitsP3
namespace Go.Proofs.YtnlekapghebhlaaGreat
set_option linter.unusedVariables false
set_option linter.unusedSimpArgs false
section
variable {ro:Option Nat}
theorem Spec.drop {P:Program} {f:FuncId} {args:List AV} {S R:List Slot} {Q:AV → List Slot → Prop} (h:Spec P f args S fun r S'=>∃ S1,S' = S1 ++ R ∧ Q r S1):Spec P f args S Q :=
 ⟨h.fn,fun Sf m N Z vals hZ G hv=>by
  refine (h.run Sf m N Z vals hZ G hv).mono ?_
  rintro e w' ⟨v,r,S',m',N',Z',br,he,hw,hm,G',hvv,S1,rfl,hQ⟩
  obtain ⟨Za,Zb,rfl,h1,h2⟩:=slots_split hm
  obtain ⟨Zc,Zd,rfl,h3,h4⟩:=slots_split h1
  refine ⟨v,r,S1,m',N',Zc ++ Zb,br,he,hw,by rw [List.map_append,h3,h2],G'.sub ?_,hvv,hQ⟩
  rw [List.append_assoc]
  exact (List.Sublist.refl Zc).append (List.sublist_append_right _ _)⟩
section
variable {P:Program} {nt:Nat} {ops:Array Oper} {Q:Exit → St → Prop} {l rest:List Oper} {acc:List Eff} {T:List (Nat × AV)} {S Sin:List Slot} {xs:List (Operand × AV)} {dst:Option Tmp} {f:FuncId} {ats:Array TypeId} {ty:TypeId} {pos:String} {after:Array Edge}
theorem RGoE.callS {β:Type} {C:β → Prop} {rr vv:β → AV} {So:β → List Slot} {rS:List (Nat × Slot)} {wE:β → List (Nat × Slot)} (b0:β) (hb0:C b0) (h:Spec P f (xs.map (·.2)) Sin fun r' S'=>∃ b,C b ∧ r' = rr b ∧ S' = So b) (hf:∀ b,TR (rr b) (vv b) []) (hr:rS.map (·.2) = Sin) (hw:∀ b,(wE b).map (·.2) = So b) (hp:∀ b,(wE b).map (·.1) = rS.map (·.1)) (hnd:(rS.map (·.1)).Nodup) (hG:Gets S rS) (hx:Evs T xs) (ht:noTup xs = true) (hd:dstOk dst nt = true) (hl:laterB acc.length (masks l []) = true)
  (k:∀ b,C b → RGo P nt ops l Q rest (acc ++ [⟨⟨dst,.call ⟨.value (.func f),(xs.map (·.1)).toArray,ats⟩,ty,pos,after,none⟩,tmpsOf xs,rS.map (·.1),vv b,wE b⟩]) ⟨putD T dst (vv b),setAll S (wE b)⟩):RGoE P nt ops l Q (⟨dst,.call ⟨.value (.func f),(xs.map (·.1)).toArray,ats⟩,ty,pos,after,none⟩ :: rest) acc ⟨T,S⟩:=by
 have hk:∀ b:{b // C b},∃ effs st',Run P nt ops rest ⟨putD T dst (vv b.1),setAll S (wE b.1)⟩ effs st' ∧ compat ((acc ++ [⟨⟨dst,.call ⟨.value (.func f),(xs.map (·.1)).toArray,ats⟩,ty,pos,after,none⟩,tmpsOf xs,rS.map (·.1),vv b.1,wE b.1⟩]) ++ effs) (masks l []) = true ∧ Q .normal st':=fun b=>k b.1 b.2
 refine ⟨{b // C b},⟨b0,hb0⟩,0,fun b=>⟨⟨dst,.call ⟨.value (.func f),(xs.map (·.1)).toArray,ats⟩,ty,pos,after,none⟩,tmpsOf xs,rS.map (·.1),vv b.1,wE b.1⟩ :: (hk b).choose,fun b=>?_,fun b b' i hi=>absurd hi (Nat.not_lt_zero i),fun b i e hi he=>?_,fun e he=>?_,fun b=>?_,hl,fun b=>?_⟩
 ·obtain ⟨st',h1,h2,h3⟩:=(hk b).choose_spec
  rw [List.map_cons,h1.spec.2.1]
 ·obtain ⟨st',h1,h2,h3⟩:=(hk b).choose_spec
  cases i with
  | zero=>exact absurd rfl hi
  | succ i =>
   rw [stX_cons]
   exact h1.spec.2.2 i e (by simpa using he)
 ·simp at he
  subst he
  refine ⟨rfl,by simp,fun m0 T' S' a w hT hS hr'=>?_⟩
  rw [stX_zero] at hT hS
  obtain ⟨m,N,Z,rfl,h2,h3,h4⟩:=hr'
  have h2':Z.map (·.1) = S':=h2
  have h4':TRel m0 m nt T' a:=h4
  have hv:VTs m (xs.map (·.2)) (((xs.map (·.1)).toArray).map a.eval).toList []:=by
   have:=vts_of (noTup_spec ht) fun q hq=>h4'.ev (evs_local (st:=⟨T,S⟩) hx hT q hq)
   simpa [Function.comp_def] using this
  have hS0:∀ q ∈ rS,S'[q.1]? = some q.2:=by
   intro q hq
   rw [hS q.1 (List.mem_map.2 ⟨q,hq,rfl⟩)]
   exact hG.all q hq
  have hc:=callG_runE (dst:=dst) (S:=S') (nw:=fun _=>[]) (gs:=[]) h hf (fun _=>rfl) (by rw [hr,List.append_nil]) (fun b=>by rw [hw b,List.append_nil]) hp hnd hS0 (dstOk_lt hd) h2' h3 h4' hv
  have hw:=wp_call (ty:=ty) (pos:=pos) (after:=after) (g:=none) (dst:=dst) (ats:=ats) (K:=fun a' w'=>∃ b,C b ∧ Rel nt m0 ⟨putD T' dst (vv b),setAll S' (wE b)⟩ a' w') (fun _=>rfl) h.fn hc
  refine Oper.wp_mono ?_ hw
  rintro a' w' ⟨b,hb,hrel⟩
  exact ⟨(⟨b,hb⟩,⟨⟨dst,.call ⟨.value (.func f),(xs.map (·.1)).toArray,ats⟩,ty,pos,after,none⟩,tmpsOf xs,rS.map (·.1),vv b,wE b⟩),rfl,hrel⟩
 ·obtain ⟨st',h1,h2,h3⟩:=(hk b).choose_spec
  simpa using h2
 ·obtain ⟨st',h1,h2,h3⟩:=(hk b).choose_spec
  rw [stX_all]
  have:=h1.spec.1
  rw [this] at h3
  exact h3
theorem RGoE.n0 {β:Type} {rr vv:β → AV} {s1 s2 s3 s4:β → Slot} {p1 p2 p3 p4:Nat} (Y1 Y2 Y3 Y4:Nat) (b0:β) (h:Spec P f [] [] fun r' S'=>∃ b,r' = rr b ∧ S' = [s1 b,s2 b,s3 b,s4 b]) [hf:∀ b,Frz (rr b) (vv b)]
  (k:∀ b,RGo P nt ops l Q rest (acc ++ [⟨⟨dst,.call ⟨.value (.func f),#[],ats⟩,ty,pos,after,none⟩,[],[p1,p2,p3,p4],vv b,[(p1,s1 b),(p2,s2 b),(p3,s3 b),(p4,s4 b)]⟩]) ⟨putD T dst (vv b),setAll S [(p1,s1 b),(p2,s2 b),(p3,s3 b),(p4,s4 b)]⟩)
  (hl:laterB acc.length (masks l []) = true:=by kernel_rfl) (a1:At S p1 (Y1,.gone):=by exact At.f) (a2:At S p2 (Y2,.gone):=by exact At.f) (a3:At S p3 (Y3,.gone):=by exact At.f) (a4:At S p4 (Y4,.gone):=by exact At.f) (hnd:nodupB [p1,p2,p3,p4] = true:=by rfl) (hd:dstOk dst nt = true:=by rfl) :
  RGoE P nt ops l Q (⟨dst,.call ⟨.value (.func f),#[],ats⟩,ty,pos,after,none⟩ :: rest) acc ⟨T,S⟩ :=
 RGoE.callS (xs:=[]) (C:=fun _=>True) (rr:=rr) (vv:=vv) (So:=fun b=>[s1 b,s2 b,s3 b,s4 b]) (rS:=[(p1,(Y1,.gone)),(p2,(Y2,.gone)),(p3,(Y3,.gone)),(p4,(Y4,.gone))]) (wE:=fun b=>[(p1,s1 b),(p2,s2 b),(p3,s3 b),(p4,s4 b)]) b0 trivial
  (Spec.drop (R:=[(Y1,.gone),(Y2,.gone),(Y3,.gone),(Y4,.gone)]) ((h.beside [(Y1,.gone),(Y2,.gone),(Y3,.gone),(Y4,.gone)]).mono fun r' S' ⟨S1,e1,b,e2,e3⟩=>⟨S1,e1,b,trivial,e2,e3⟩)) (fun b=>.fz) rfl (fun _=>rfl) (fun _=>rfl) (nodupB_spec hnd) (.cons a1 (.cons a2 (.cons a3 (.cons a4 .nil)))) .nil rfl hd hl (fun b _=>k b)
end
end
theorem Good.addUsed {m0 m:Mem} {N X:Nat} {Z:Zs} {br:List Nat} (G:Good m0 m N Z br) (hU:m.U X) (hk:X ∉ Z.keys):Good m0 m N (((X,.used),[]) :: Z) br:=by
 refine ⟨fun q hq=>?_,by simpa [Zs.own] using G.own,by simpa [Zs.own] using G.blk,G.frz,List.nodup_cons.2 ⟨hk,G.keys⟩,fun x hx=>?_,G.usedN,G.le,G.os,G.tape,G.output,G.size⟩
 ·rcases List.mem_cons.1 hq with rfl | hq
  ·exact ⟨rfl,hU⟩
  ·exact G.obj q hq
 ·rcases List.mem_cons.1 hx with rfl | hx
  ·exact G.usedN _ hU
  ·exact G.keyN x hx
theorem Spec.used2 {P:Program} {f:FuncId} {args:List AV} {X Y:Nat} {t t2:TypeId} {sz sz2:Nat} {l l2:List AV} {r:AV} (h:Spec P f args [(X,.row t sz l),(Y,.row t2 sz2 l2)] fun r' S'=>r' = r ∧ S' = []):Spec P f args [(X,.row t sz l),(Y,.row t2 sz2 l2)] fun r' S'=>r' = r ∧ S' = [(X,.used),(Y,.used)] :=
 ⟨h.fn,fun Sf m N Z vals h1 h2 h3=>(h.run Sf m N Z vals h1 h2 h3).mono fun e w' ⟨v,r',S',m',N',Z',br,a,b,hm,G,e',hr,hS⟩=>by
  subst hS
  simp only [List.nil_append] at hm
  have hk:∀ Z1:Zs,Z1.keys = (Z1.map (·.1)).map (·.1):=fun Z1=>by simp [Zs.keys]
  have hkeys:=h2.keys
  rw [hk,h1] at hkeys
  simp only [List.cons_append,List.nil_append,List.map_cons,List.nodup_cons,List.mem_cons,not_or] at hkeys
  obtain ⟨⟨hXY,hX⟩,hY,_⟩:=hkeys
  have hUX:m.U X:=by
   have:(X,AO.row t sz l) ∈ Z.map (·.1):=by rw [h1];simp
   obtain ⟨z,hz,e1⟩:=List.mem_map.1 this
   have hO:=h2.obj z hz
   rw [e1] at hO
   exact hO.1
  have hUY:m.U Y:=by
   have:(Y,AO.row t2 sz2 l2) ∈ Z.map (·.1):=by rw [h1];simp
   obtain ⟨z,hz,e1⟩:=List.mem_map.1 this
   have hO:=h2.obj z hz
   rw [e1] at hO
   exact hO.1
  have nY:Y ∉ Z'.keys:=by rw [hk,hm];exact hY
  have G1:=G.addUsed (G.le.U Y hUY) nY
  have nX:X ∉ Zs.keys (((Y,AO.used),[]) :: Z'):=by
   rw [hk,List.map_cons,hm]
   simp only [List.map_cons,List.mem_cons,not_or]
   exact ⟨hXY,hX⟩
  exact ⟨v,r',[(X,.used),(Y,.used)],m',N',((X,.used),[]) :: ((Y,.used),[]) :: Z',br,a,b,by simp [hm],G1.addUsed (G.le.U X hUX) nX,e',hr,rfl⟩⟩
section
variable {ro:Option Nat}
def strip (n:Nat) (e:Eff):Eff:=⟨e.o,e.rT,e.rS.filter fun p=>Nat.blt p n,e.v,e.wS⟩
theorem meet_strip {n:Nat} {a b:List Nat} (h:∀ p ∈ a,p < n):meet a (b.filter fun p=>Nat.blt p n) = meet a b:=by
 have hb:∀ p,p < n → Nat.blt p n = true:=fun p h=>by simpa [Nat.blt_eq] using h
 apply Bool.eq_iff_iff.2
 simp only [meet,List.any_eq_true]
 constructor
 ·rintro ⟨x,hx,y,hy,e⟩
  exact ⟨x,hx,y,(List.mem_filter.1 hy).1,e⟩
 ·rintro ⟨x,hx,y,hy,e⟩
  have e':=Nat.eq_of_beq_eq_true e
  subst e'
  exact ⟨x,hx,x,List.mem_filter.2 ⟨hy,hb x (h x hx)⟩,e⟩
def lowW (n:Nat) (e:Eff):Bool:=e.wS.all fun q=>Nat.blt q.1 n
theorem lowW_spec {n:Nat} {e:Eff} (h:lowW n e = true):∀ p ∈ e.wS.map (·.1),p < n:=by
 intro p hp
 obtain ⟨q,hq,rfl⟩:=List.mem_map.1 hp
 have:=List.all_eq_true.1 h q hq
 simpa [Nat.blt_eq] using this
theorem clash_strip {n:Nat} {a b:Eff} (ha:lowW n a = true) (hb:lowW n b = true):clash (strip n a) (strip n b) = clash a b:=by
 unfold clash
 show (memD a.o.dst b.rT || memD b.o.dst a.rT || sameD a.o.dst b.o.dst || meet (a.wS.map (·.1)) (b.rS.filter fun p=>Nat.blt p n) || meet (b.wS.map (·.1)) (a.rS.filter fun p=>Nat.blt p n) || meet (a.wS.map (·.1)) (b.wS.map (·.1))) = _
 rw [meet_strip (lowW_spec ha),meet_strip (lowW_spec hb)]
theorem compat_strip {n:Nat} {effs:List Eff} {ms:List Nat} (h:∀ e ∈ effs,lowW n e = true) (hc:compat (effs.map (strip n)) ms = true):compat effs ms = true:=by
 unfold compat at hc ⊢
 rw [List.length_map] at hc
 rw [List.all_eq_true] at hc ⊢
 intro j hj
 have h1:=hc j hj
 rw [List.all_eq_true] at h1 ⊢
 intro i hi
 have h2:=h1 i hi
 rw [List.getElem?_map,List.getElem?_map] at h2
 cases ei:effs[i]? with
 | none=>rw [ei] at h2;simp at h2
 | some a =>
  cases ej:effs[j]? with
  | none=>rw [ei,ej] at h2;simp at h2
  | some b =>
   rw [ei,ej] at h2
   cases em:ms[j]? with
   | none=>rw [em] at h2;simp at h2
   | some m =>
    rw [em] at h2
    simp only [Option.map_some] at h2 ⊢
    rwa [clash_strip (h a (List.mem_of_getElem? ei)) (h b (List.mem_of_getElem? ej))] at h2
section
variable {P:Program} {nt:Nat} {ops:Array Oper} {Q:Exit → St → Prop} {l rest:List Oper} {acc:List Eff} {st:St} {T:List (Nat × AV)} {S:List Slot} {xs:List (Operand × AV)} {rS wS:List (Nat × Slot)} {v:AV} {op:Op} {ty:TypeId} {pos:String} {after:Array Edge} {dst:Option Tmp} {n:Nat}
def RGoT (n:Nat) (P:Program) (nt:Nat) (ops:Array Oper) (l:List Oper) (Q:Exit → St → Prop) (rest:List Oper) (acc:List Eff) (st:St):Prop :=
 ∃ effs st',Run P nt ops rest st effs st' ∧ (∀ e ∈ effs,lowW n e = true) ∧ compat (acc ++ effs.map (strip n)) (masks l []) = true ∧ Q .normal st'
theorem AWP.region_runT (n:Nat) {id:Nat} (hm:P.follows .mixedOrders = true) (hdn:down l 0 = true) (h:RGoT n P nt l.toArray l Q l [] st):AWP ro P nt (.region id l.toArray true) Q st:=by
 obtain ⟨effs,st',h1,h2,h3,h4⟩:=h
 exact .region_run hm hdn ⟨effs,st',h1,compat_strip h2 h3,h4⟩
theorem RGoT.nil (hc:compat acc (masks l []) = true) (k:Q .normal st):RGoT n P nt ops l Q [] acc st:=⟨[],st,.nil,by simp,by simpa using hc,k⟩
theorem RGoT.step_ {o:Oper} {e:Eff} {st':St} (h:∀ {effs st''},Run P nt ops rest st' effs st'' → Run P nt ops (o :: rest) st (e :: effs) st'') (hw:lowW n e = true) (k:RGoT n P nt ops l Q rest (acc ++ [strip n e]) st'):RGoT n P nt ops l Q (o :: rest) acc st:=by
 obtain ⟨effs,st'',h1,h2,h3,h4⟩:=k
 refine ⟨_,_,h h1,fun e' he=>?_,by simpa using h3,h4⟩
 rcases List.mem_cons.1 he with rfl | he
 ·exact hw
 ·exact h2 e' he
theorem RGoT.go (k:RGoT n P nt ops l Q rest (acc ++ [strip n ⟨⟨dst,op,ty,pos,after,none⟩,tmpsOf xs,rS.map (·.1),v,[]⟩]) ⟨putD T dst v,S⟩) (h:Stp none P ⟨dst,op,ty,pos,after,none⟩ T S xs rS v []:=by exact Stp.f0) (hd:dstOk dst nt = true:=by rfl):RGoT n P nt ops l Q (⟨dst,op,ty,pos,after,none⟩ :: rest) acc ⟨T,S⟩:=RGoT.step_ (fun r=>Run.p h hd r) rfl k
theorem RGoT.goS (k:RGoT n P nt ops l Q rest (acc ++ [strip n ⟨⟨dst,op,ty,pos,after,none⟩,tmpsOf xs,rS.map (·.1),v,wS⟩]) ⟨putD T dst v,setAll S wS⟩) (h:Stp none P ⟨dst,op,ty,pos,after,none⟩ T S xs rS v wS:=by exact Stp.st) (hw:(wS.all fun q=>Nat.blt q.1 n) = true:=by rfl) (hd:dstOk dst nt = true:=by rfl):RGoT n P nt ops l Q (⟨dst,op,ty,pos,after,none⟩ :: rest) acc ⟨T,S⟩:=RGoT.step_ (fun r=>Run.s h hd r) hw k
end
section
variable {P:Program} {ty:TypeId} {pos:String} {after:Array Edge} {g:Option (Nat × Bool)} {dst:Option Tmp} {xs:List (Operand × AV)} {f:FuncId} {ats:Array TypeId} {r v:AV} {Sin:List Slot} {rS:List (Nat × Slot)}
theorem setAll_same:∀ (rS:List (Nat × Slot)) (S:List Slot),(∀ q ∈ rS,S[q.1]? = some q.2) → setAll S rS = S
 | [],S,_=>rfl
 | q :: rS,S,h=>by
  have h1:=h q (by simp)
  obtain ⟨h2,h3⟩:=List.getElem?_eq_some_iff.1 h1
  have e:S.set q.1 q.2 = S:=by rw [← h3];exact List.set_getElem_self h2
  show setAll (S.set q.1 q.2) rS = S
  rw [e]
  exact setAll_same rS S fun q' hq=>h q' (by simp [hq])
theorem OpT.callK (h:Spec P f (xs.map (·.2)) Sin fun r' S'=>r' = r ∧ S' = Sin) (ht:noTup xs = true) (hT:TR r v []) (hr:rS.map (·.2) = Sin) (hnd:(rS.map (·.1)).Nodup) :
  OpT P ⟨dst,.call ⟨.value (.func f),(xs.map (·.1)).toArray,ats⟩,ty,pos,after,g⟩ xs rS v []:=by
 intro nt m0 T S a w hx hS hd hrel
 have:=OpT.callG (ty:=ty) (pos:=pos) (after:=after) (g:=g) (dst:=dst) (ats:=ats) (wS:=rS) (news:=[]) h ht hT (by rw [hr];simp [gones]) (by rw [hr];simp) rfl hnd nt m0 T S a w hx hS hd hrel
 rw [setAll_same rS S hS] at this
 exact this
variable {n nt:Nat} {ops:Array Oper} {Q:Exit → St → Prop} {l rest:List Oper} {acc:List Eff} {T:List (Nat × AV)} {L R:List Slot} {S:List Slot}
theorem RGoT.callK (h:Spec P f (xs.map (·.2)) Sin fun r' S'=>r' = r ∧ S' = Sin) (hf:TR r v []) (hS:S = L ++ (Sin ++ R)) (hn:n ≤ L.length) (hx:Evs T xs) (ht:noTup xs = true) (hd:dstOk dst nt = true)
  (k:RGoT n P nt ops l Q rest (acc ++ [⟨⟨dst,.call ⟨.value (.func f),(xs.map (·.1)).toArray,ats⟩,ty,pos,after,none⟩,tmpsOf xs,[],v,[]⟩]) ⟨putD T dst v,S⟩):RGoT n P nt ops l Q (⟨dst,.call ⟨.value (.func f),(xs.map (·.1)).toArray,ats⟩,ty,pos,after,none⟩ :: rest) acc ⟨T,S⟩:=by
 have hG:Gets S (idxS L.length Sin):=by rw [hS];exact idxS_gets L Sin R
 have hop:OpT P ⟨dst,.call ⟨.value (.func f),(xs.map (·.1)).toArray,ats⟩,ty,pos,after,none⟩ xs (idxS L.length Sin) v []:=.callK h ht hf (idxS_snd _ _) (by rw [idxS_fst];exact List.nodup_range')
 have hst:strip n ⟨⟨dst,.call ⟨.value (.func f),(xs.map (·.1)).toArray,ats⟩,ty,pos,after,none⟩,tmpsOf xs,(idxS L.length Sin).map (·.1),v,[]⟩ = ⟨⟨dst,.call ⟨.value (.func f),(xs.map (·.1)).toArray,ats⟩,ty,pos,after,none⟩,tmpsOf xs,[],v,[]⟩:=by
  unfold strip
  dsimp only
  rw [idxS_fst]
  have:(List.range' L.length Sin.length).filter (fun p=>Nat.blt p n) = []:=by
   rw [List.filter_eq_nil_iff]
   intro p hp
   rw [List.mem_range'_1] at hp
   simp only [Nat.blt_eq]
   omega
  rw [this]
 refine RGoT.step_ (e:=⟨⟨dst,.call ⟨.value (.func f),(xs.map (·.1)).toArray,ats⟩,ty,pos,after,none⟩,tmpsOf xs,(idxS L.length Sin).map (·.1),v,[]⟩) (fun r=>Run.step rfl hop hx hG hd r) rfl ?_
 rw [hst]
 exact k
end
end
section
variable {ro:Option Nat}
open Go.RowKit
section
variable {P:Program} {nt:Nat} {ops:Array Oper}
theorem step_key {effs:List Eff} {st:St} {X:Array Bool} {i:Nat} (heff:effs.map (·.o) = ops.toList) (hc:compat effs (masks ops.toList []) = true) (hX:X.size = ops.size) (hdc:∀ j o,ops.toList[j]? = some o → X.getD j false = true → ∀ e ∈ o.after.toList,Region.binds .any e = true → X.getD e.on false = true) (hin:i < ops.size) (hXi:X.getD i false = false) (hpre:∀ e ∈ (ops[i]).after.toList,Region.binds .any e = true → X.getD e.on false = true) {e:Eff} (he:effs[i]? = some e) :
  e.o = ops[i] ∧ (∀ t ∈ e.rT,look (stX effs 0 (fun j=>X.getD j false) st).T t = look (stX effs 0 (fun j=>decide (j < i)) st).T t) ∧ (∀ p ∈ e.rS,(stX effs 0 (fun j=>X.getD j false) st).S[p]? = (stX effs 0 (fun j=>decide (j < i)) st).S[p]?) ∧
   (∀ t,look (stX effs 0 (fun j=>(X.setIfInBounds i true).getD j false) st).T t = look (e.app (stX effs 0 (fun j=>X.getD j false) st)).T t) ∧ (stX effs 0 (fun j=>(X.setIfInBounds i true).getD j false) st).S = (e.app (stX effs 0 (fun j=>X.getD j false) st)).S:=by
 have hiX:i < X.size:=by omega
 have heo:e.o = ops[i]:=by
  have h1:(effs.map (·.o))[i]? = some e.o:=by simp [he]
  rw [heff] at h1
  simpa [hin] using h1.symm
 have hmask:=masks_spec (fun j=>X.getD j false) ops.toList [] (fun j o hj hXj e he hb=>hdc j o hj (by simpa using hXj) e he hb) (fun j m h=>by simp at h)
 have hcomp:∀ a b ea eb,a < b → effs[a]? = some ea → effs[b]? = some eb → clash ea eb = true → ∃ m:Nat,(masks ops.toList [])[b]? = some m ∧ m.testBit a = true:=by
  intro a b ea eb hab hea heb hcl
  have h1:=List.all_eq_true.1 (hc) b (List.mem_range.2 (List.getElem?_eq_some_iff.1 heb).1)
  have h2:=List.all_eq_true.1 h1 a (List.mem_range.2 hab)
  simp only [hea,heb] at h2
  cases hm:(masks ops.toList [])[b]? with
  | none=>rw [hm] at h2;cases h2
  | some m=>rw [hm] at h2;exact ⟨m,rfl,by simpa [hcl] using h2⟩
 have hbefore:∀ j ej,j < i → effs[j]? = some ej → clash ej e = true → X.getD j false = true:=by
  intro j ej hj hej hcl
  obtain ⟨m,hm1,hm2⟩:=hcomp j i ej e hj hej he hcl
  have hcl2:=masks_spec (fun k=>X.getD k false || decide (k = i)) ops.toList [] (fun k o hk hXk ee hee hb=>by
   simp only [List.length_nil,Nat.zero_add,Bool.or_eq_true,decide_eq_true_eq] at hXk ⊢
   rcases hXk with h | h
   ·exact .inl (hdc k o hk h ee hee hb)
   ·subst h
    have:o = ops[k]:=by simpa [hin] using hk.symm
    subst this
    exact .inl (hpre ee hee hb)) (fun j m h=>by simp at h) i m hm1 (by simp) j hm2
  simp only [Bool.or_eq_true,decide_eq_true_eq] at hcl2
  rcases hcl2 with h | h
  ·exact h
  ·omega
 have hafter:∀ j ej,i < j → effs[j]? = some ej → clash e ej = true → X.getD j false = false:=by
  intro j ej hj hej hcl
  obtain ⟨m,hm1,hm2⟩:=hcomp i j e ej hj he hej hcl
  cases hx:X.getD j false with
  | false=>rfl
  | true =>
   have:=hmask j m hm1 hx i hm2
   rw [hXi] at this
   cases this
 have hrT:∀ t ∈ e.rT,look (stX effs 0 (fun j=>X.getD j false) st).T t = look (stX effs 0 (fun j=>decide (j < i)) st).T t:=by
  intro t ht
  refine stX_look (fun j ej hej hd=>?_) rfl
  rw [Nat.zero_add]
  rcases Nat.lt_trichotomy j i with h | h | h
  ·rw [hbefore j ej h hej ?_]
   ·simp [h]
   ·cases hcl:clash ej e with
    | true=>rfl
    | false=>exact absurd ht ((clash_spec hcl).1 t hd)
  ·subst h
   rw [hXi];simp
  ·rw [hafter j ej h hej ?_]
   ·simp;omega
   ·cases hcl:clash e ej with
    | true=>rfl
    | false=>exact absurd ht ((clash_spec hcl).2.1 t hd)
 have hrS:∀ p ∈ e.rS,(stX effs 0 (fun j=>X.getD j false) st).S[p]? = (stX effs 0 (fun j=>decide (j < i)) st).S[p]?:=by
  intro p hp
  refine stX_get (fun j ej hej hd=>?_) rfl rfl
  rw [Nat.zero_add]
  obtain ⟨q,hq,rfl⟩:=hd
  rcases Nat.lt_trichotomy j i with h | h | h
  ·rw [hbefore j ej h hej ?_]
   ·simp [h]
   ·cases hcl:clash ej e with
    | true=>rfl
    | false=>exact absurd hp ((clash_spec hcl).2.2.2.1 q hq)
  ·subst h
   rw [hXi];simp
  ·rw [hafter j ej h hej ?_]
   ·simp;omega
   ·cases hcl:clash e ej with
    | true=>rfl
    | false=>exact absurd hp ((clash_spec hcl).2.2.2.2.1 q hq)
 have hX':∀ k,(X.setIfInBounds i true).getD k false = (X.getD k false || decide (k = i)):=by
  intro k
  simp only [Array.getD_eq_getD_getElem?,Array.getElem?_setIfInBounds]
  by_cases hk:i = k
  ·subst hk;simp [hiX]
  ·simp [hk,Ne.symm hk]
 have hT:∀ t,look (stX effs 0 (fun j=>(X.setIfInBounds i true).getD j false) st).T t = look (e.app (stX effs 0 (fun j=>X.getD j false) st)).T t:=by
  intro t
  by_cases hd:e.o.dst = some t
  ·rw [stX_last (i:=i) (e:=e) (t:=t) he (by rw [Nat.zero_add,hX'];simp) hd ?_]
   ·simp [Eff.app,hd,putD,look_cons]
   ·intro j ej hj hej hXj hdj
    rw [Nat.zero_add,hX'] at hXj
    have hXj':X.getD j false = true:=by
     simp only [Bool.or_eq_true,decide_eq_true_eq] at hXj
     rcases hXj with h | h
     ·exact h
     ·omega
    have:=hafter j ej hj hej (by
     cases hcl:clash e ej with
     | true=>rfl
     | false=>exact absurd hdj ((clash_spec hcl).2.2.1 t hd))
    rw [hXj'] at this
    cases this
  ·have ap:look (e.app (stX effs 0 (fun j=>X.getD j false) st)).T t = look (stX effs 0 (fun j=>X.getD j false) st).T t:=by
    simp only [Eff.app]
    cases hdd:e.o.dst with
    | none=>rfl
    | some d=>rw [putD,look_cons,if_neg];exact fun h=>hd (by rw [hdd,h])
   rw [ap]
   refine stX_look (fun j ej hej hdj=>?_) rfl
   rw [Nat.zero_add,hX']
   have:j ≠ i:=by
    rintro rfl
    rw [he] at hej
    injection hej with hej
    subst hej
    exact hd hdj
   simp [this]
 have hS:(stX effs 0 (fun j=>(X.setIfInBounds i true).getD j false) st).S = (e.app (stX effs 0 (fun j=>X.getD j false) st)).S:=by
  refine List.ext_getElem? fun p=>?_
  by_cases hd:∃ q ∈ e.wS,q.1 = p
  ·rw [stX_lastS (i:=i) (e:=e) (p:=p) he (by rw [Nat.zero_add,hX'];simp) hd ?_ (stX effs 0 (fun j=>X.getD j false) st).S (stX_len ..)]
   ·rfl
   ·intro j ej hj hej hXj hdj
    rw [Nat.zero_add,hX'] at hXj
    have hXj':X.getD j false = true:=by
     simp only [Bool.or_eq_true,decide_eq_true_eq] at hXj
     rcases hXj with h | h
     ·exact h
     ·omega
    obtain ⟨q,hq,hqp⟩:=hd
    obtain ⟨q',hq',hqp'⟩:=hdj
    have:=hafter j ej hj hej (by
     cases hcl:clash e ej with
     | true=>rfl
     | false=>exact absurd (hqp.trans hqp'.symm) ((clash_spec hcl).2.2.2.2.2 q hq q' hq'))
    rw [hXj'] at this
    cases this
  ·have ap:(e.app (stX effs 0 (fun j=>X.getD j false) st)).S[p]? = (stX effs 0 (fun j=>X.getD j false) st).S[p]?:=setAll_ne (fun q hq h=>hd ⟨q,hq,h⟩) _
   rw [ap]
   refine stX_get (fun j ej hej hdj=>?_) rfl rfl
   rw [Nat.zero_add,hX']
   have:j ≠ i:=by
    rintro rfl
    rw [he] at hej
    injection hej with hej
    subst hej
    exact hd hdj
   simp [this]
 exact ⟨heo,hrT,hrS,hT,hS⟩
theorem all_ready (hdn:down ops.toList 0 = true) {X:Array Bool} (hX:X.size = ops.size) (hnil:Region.ready .any ops X = []):∀ j,j < ops.size → X.getD j false = true:=by
 intro j
 induction j using Nat.strongRecOn with
 | _ j ih =>
  intro hj
  cases hx:X.getD j false with
  | true=>rfl
  | false =>
   exfalso
   have:j ∈ Region.ready .any ops X:=by
    refine List.mem_filter.2 ⟨List.mem_range.2 hj,?_⟩
    have ho:ops[j]? = some ops[j]:=by simp [hj]
    have hx':X.getD j true = false:=by
     have hjX:j < X.size:=by omega
     simp only [Array.getD_eq_getD_getElem?,Array.getElem?_eq_getElem hjX,Option.getD_some] at hx ⊢
     exact hx
    simp only [hx',ho,Option.map_some,Option.getD_some,Bool.not_false,Bool.true_and]
    rw [Array.all_eq_true']
    intro e he
    cases hb:Region.binds .any e with
    | false=>simp
    | true =>
     have hlt:=down_spec _ 0 hdn j ops[j] (by simp [hj]) e (by simpa using he) hb
     have:=ih e.on (by omega) (by omega)
     simpa using this
   rw [hnil] at this
   cases this
theorem wpIn_nQ {F:Fence} {n:Nat} {o:Oper} {a:Act} {w:World} {K K':Act → World → Prop} {Q Q':Exit → Act → World → Prop} (hK:∀ a w,K a w → K' a w) (hQ:∀ e a w,Q e a w → e = .normal) (hh:o.wpIn F n P a w K Q):o.wpIn F n P a w K' Q':=by
 unfold Oper.wpIn at *
 refine ⟨hh.1,?_⟩
 have hh:=hh.2
 generalize (o.semAt F.round a.eval).run P w = r at *
 cases r with
 | ok x w' =>
  cases x <;> simp only [Oper.uponIn] at hh ⊢ <;>
   first
    | exact hK _ _ hh
    | exact ⟨hh.1,CallsIn.mono hh.2 (fun e w'' he=>by
      cases e with
      | returned v=>exact hK _ _ he
      | panicked c=>exact absurd (hQ _ _ _ he) (by simp)
      | outgrown=>obtain ⟨a2,w2,h2⟩:=he;exact absurd (hQ _ _ _ h2) (by simp))⟩
    | exact ⟨hh.1,RowsIn.mono hh.2 (fun _ _ he=>hK _ _ he)⟩
    | exact ⟨hh.1,RoundIn.mono hh.2 (fun e w'' he=>by
      cases e with
      | returned v=>exact hK _ _ he
      | panicked c=>exact absurd (hQ _ _ _ he) (by simp)
      | outgrown=>obtain ⟨a2,w2,h2⟩:=he;exact absurd (hQ _ _ _ h2) (by simp))⟩
 | halt x w' =>
  cases x <;> simp only [Oper.uponIn] at hh ⊢ <;>
   first
    | exact hh
    | exact absurd (hQ _ _ _ hh) (by simp)
structure St.LeH (st st':St):Prop where
 T:∀ d v,look st'.T d = some v → look st.T d = some v
 S:st'.S.Sublist st.S
theorem Rel.weakH {m0:Mem} {st st':St} {a:Act} {w:World} (h:Rel nt m0 st a w) (k:st.LeH st'):Rel nt m0 st' a w:=(Rel.congr (T':=st'.T) h k.T).sub k.S
abbrev Hv:Type:=Nat × Oper × List Nat × List (Nat × AV)
def HC (ro:Option Nat) (P:Program) (nt:Nat) (Q:Exit → St → Prop) (Tf:List (Nat × AV)) (Ff:List Slot):List Hv → List (Nat × AV) → List Slot → Prop
 | [],V,R=>Q .normal ⟨V ++ Tf,Ff ++ R⟩
 | q :: hs,V,R=>∀ T F,(∀ t ∈ q.2.2.1,look T t = look (V ++ q.2.2.2) t) → AOps ro P nt #[] (fun ex st'=>ex = .normal ∧ ∃ u R',st'.LeH ⟨putD T q.2.1.dst u,F ++ R'⟩ ∧ HC ro P nt Q Tf Ff hs (putD V q.2.1.dst u) R') [q.2.1] ⟨T,F ++ R⟩
theorem setAll_left {wS:List (Nat × Slot)}:∀ {F R:List Slot},(∀ q ∈ wS,q.1 < F.length) → setAll (F ++ R) wS = setAll F wS ++ R:=by
 induction wS with
 | nil=>intro F R _;rfl
 | cons q r ih =>
  intro F R h
  show setAll ((F ++ R).set q.1 q.2) r = setAll (F.set q.1 q.2) r ++ R
  rw [List.set_append_left _ _ (h q (by simp))]
  exact ih fun q' hq'=>by rw [List.length_set];exact h q' (by simp [hq'])
theorem any_orderH {m0:Mem} {st:St} {effs:List Eff} {hv:List Hv} {Q:Exit → St → Prop} {R0:List Slot} (heff:effs.map (·.o) = ops.toList) (hc:compat effs (masks ops.toList []) = true) (hdn:down ops.toList 0 = true)
  (hvi:∀ q ∈ hv,∃ e,effs[q.1]? = some e ∧ e.o = q.2.1 ∧ e.rT = q.2.2.1 ∧ (stX effs 0 (fun j=>decide (j < q.1)) st).T = q.2.2.2 ∧ e.wS = [] ∧ e.o.guard = none)
  (hch:hv.Pairwise fun p q=>p.1 < q.1 ∧ ∃ m,(masks ops.toList [])[q.1]? = some m ∧ m.testBit p.1 = true)
  (hli:∀ i e,(∀ q ∈ hv,q.1 ≠ i) → effs[i]? = some e → LocOK P nt ops e (stX effs 0 (fun j=>decide (j < i)) st) ∧ (∀ p ∈ e.rS,p < st.S.length) ∧ (∀ q ∈ e.wS,q.1 < st.S.length) ∧ ∀ q ∈ hv,∀ d,q.2.1.dst = some d → d ∉ e.rT ∧ e.o.dst ≠ some d) :
  ∀ (fuel:Nat) (X:Array Bool) (a:Act) (w:World),X.size = ops.size → (∀ j o,ops.toList[j]? = some o → X.getD j false = true → ∀ e ∈ o.after.toList,Region.binds .any e = true → X.getD e.on false = true) →
   ((List.range ops.size).filter fun j=>!X.getD j false).length ≤ fuel →
   (∃ dn hs V R,hv = dn ++ hs ∧ (∀ q ∈ dn,X.getD q.1 false = true) ∧ (∀ q ∈ hs,X.getD q.1 false = false) ∧ (∀ d,look V d ≠ none → ∃ q ∈ dn,q.2.1.dst = some d) ∧ HC ro P nt Q (stX effs 0 (fun _=>true) st).T (stX effs 0 (fun _=>true) st).S hs V R ∧ Rel nt m0 ⟨V ++ (stX effs 0 (fun j=>X.getD j false) st).T,(stX effs 0 (fun j=>X.getD j false) st).S ++ R⟩ a w) →
   wpAnyIn (FW ro) 0 P .any ops (fun e a' w'=>∃ st',Rel nt m0 st' a' w' ∧ Q e st') fuel X a w:=by
 have hlen:effs.length = ops.size:=by have:=congrArg List.length heff;simpa using this
 have hvlt:∀ q ∈ hv,q.1 < ops.size:=fun q hq=>by
  obtain ⟨e,he,_⟩:=hvi q hq
  rw [← hlen];exact (List.getElem?_eq_some_iff.1 he).1
 have done:∀ (X:Array Bool) a w,(∀ j,j < ops.size → X.getD j false = true) → (∃ dn hs V R,hv = dn ++ hs ∧ (∀ q ∈ dn,X.getD q.1 false = true) ∧ (∀ q ∈ hs,X.getD q.1 false = false) ∧ (∀ d,look V d ≠ none → ∃ q ∈ dn,q.2.1.dst = some d) ∧ HC ro P nt Q (stX effs 0 (fun _=>true) st).T (stX effs 0 (fun _=>true) st).S hs V R ∧ Rel nt m0 ⟨V ++ (stX effs 0 (fun j=>X.getD j false) st).T,(stX effs 0 (fun j=>X.getD j false) st).S ++ R⟩ a w) → ∃ st',Rel nt m0 st' a w ∧ Q .normal st':=by
  rintro X a w hall ⟨dn,hs,V,R,h1,h2,h3,h4,h5,hr⟩
  cases hs with
  | cons q hs =>
   have hq:q ∈ hv:=by rw [h1];simp
   have:=h3 q (by simp)
   rw [hall q.1 (hvlt q hq)] at this
   cases this
  | nil =>
   have hT:∀ t,look (stX effs 0 (fun j=>X.getD j false) st).T t = look (stX effs 0 (fun _=>true) st).T t:=fun t =>
    stX_look (fun j e he _=>by rw [Nat.zero_add];exact hall j (by rw [← hlen];exact (List.getElem?_eq_some_iff.1 he).1)) rfl
   have hS:(stX effs 0 (fun j=>X.getD j false) st).S = (stX effs 0 (fun _=>true) st).S:=List.ext_getElem? fun p =>
    stX_get (fun j e he _=>by rw [Nat.zero_add];exact hall j (by rw [← hlen];exact (List.getElem?_eq_some_iff.1 he).1)) rfl rfl
   have hr':Rel nt m0 ⟨V ++ (stX effs 0 (fun _=>true) st).T,(stX effs 0 (fun j=>X.getD j false) st).S ++ R⟩ a w:=Rel.congr hr fun d v h=>by
    rw [look_app] at h ⊢
    rw [hT];exact h
   rw [hS] at hr'
   exact ⟨_,hr',h5⟩
 intro fuel
 induction fuel with
 | zero =>
  intro X a w hX hdc hf hr
  have hall:∀ j,j < ops.size → X.getD j false = true:=by
   intro j hj
   have hnil:=List.eq_nil_of_length_eq_zero (Nat.le_zero.1 hf)
   cases hx:X.getD j false with
   | true=>rfl
   | false =>
    have:j ∈ (List.range ops.size).filter fun j=>!X.getD j false:=List.mem_filter.2 ⟨List.mem_range.2 hj,by simp only [hx,Bool.not_false]⟩
    rw [hnil] at this
    cases this
  refine ⟨List.filter_eq_nil_iff.2 fun j hj=>?_,done X a w hall hr⟩
  have hj':=List.mem_range.1 hj
  have:=hall j hj'
  have hjX:j < X.size:=by omega
  simp only [Array.getD_eq_getD_getElem?,Array.getElem?_eq_getElem hjX,Option.getD_some] at this ⊢
  simp [this]
 | succ fuel ih =>
  intro X a w hX hdc hf hinv
  refine ⟨fun hnil=>done X a w (all_ready hdn hX hnil) hinv,fun i hi=>?_⟩
  obtain ⟨hi1,hi2⟩:=List.mem_filter.1 hi
  have hin:=List.mem_range.1 hi1
  have ho:ops[i]? = some ops[i]:=by simp [hin]
  have hiX:i < X.size:=by omega
  simp only [ho,Option.map_some,Option.getD_some,Bool.and_eq_true] at hi2
  have hXi:X.getD i false = false:=by
   have h:=hi2.1
   simp only [Array.getD_eq_getD_getElem?,Array.getElem?_eq_getElem hiX,Option.getD_some] at h ⊢
   simpa using h
  have hpre:∀ e ∈ (ops[i]).after.toList,Region.binds .any e = true → X.getD e.on false = true:=by
   intro e he hb
   have:=Array.all_eq_true'.1 hi2.2 e (by simpa using he)
   simpa [hb] using this
  obtain ⟨e,he⟩:∃ e,effs[i]? = some e:=⟨effs[i]'(by rw [hlen];exact hin),by simp [hlen,hin]⟩
  obtain ⟨heo,hrT,hrS,hT2,hS2⟩:=step_key heff hc hX hdc hin hXi hpre he
  have hX':∀ k,(X.setIfInBounds i true).getD k false = (X.getD k false || decide (k = i)):=by
   intro k
   simp only [Array.getD_eq_getD_getElem?,Array.getElem?_setIfInBounds]
   by_cases hk:i = k
   ·subst hk;simp [hiX]
   ·simp [hk,Ne.symm hk]
  have next:∀ a w,(∃ dn hs V R,hv = dn ++ hs ∧ (∀ q ∈ dn,(X.setIfInBounds i true).getD q.1 false = true) ∧ (∀ q ∈ hs,(X.setIfInBounds i true).getD q.1 false = false) ∧ (∀ d,look V d ≠ none → ∃ q ∈ dn,q.2.1.dst = some d) ∧ HC ro P nt Q (stX effs 0 (fun _=>true) st).T (stX effs 0 (fun _=>true) st).S hs V R ∧ Rel nt m0 ⟨V ++ (stX effs 0 (fun j=>(X.setIfInBounds i true).getD j false) st).T,(stX effs 0 (fun j=>(X.setIfInBounds i true).getD j false) st).S ++ R⟩ a w) → wpAnyIn (FW ro) 0 P .any ops (fun e a' w'=>∃ st',Rel nt m0 st' a' w' ∧ Q e st') fuel (X.setIfInBounds i true) a w:=by
   intro a w hr'
   refine ih _ a w (by simp [hX]) ?_ ?_ hr'
   ·intro j o hj hXj ee hee hb
    rw [hX'] at hXj ⊢
    simp only [Bool.or_eq_true,decide_eq_true_eq] at hXj ⊢
    rcases hXj with h | h
    ·exact .inl (hdc j o hj h ee hee hb)
    ·subst h
     have:o = ops[j]:=by simpa [hin] using hj.symm
     subst this
     exact .inl (hpre ee hee hb)
   ·have e1:(List.range ops.size).filter (fun j=>!(X.setIfInBounds i true).getD j false) = ((List.range ops.size).filter fun j=>!X.getD j false).filter fun j=>!decide (j = i):=by
     rw [List.filter_filter]
     congr 1
     funext j
     rw [hX']
     cases X.getD j false <;> simp
    have hmem:i ∈ (List.range ops.size).filter fun j=>!X.getD j false:=List.mem_filter.2 ⟨List.mem_range.2 hin,by simp only [hXi,Bool.not_false]⟩
    have:=(List.length_filter_lt_length_iff_exists (l:=(List.range ops.size).filter fun j=>!X.getD j false) (p:=fun j=>!decide (j = i))).2 ⟨i,hmem,by simp⟩
    rw [e1]
    omega
  obtain ⟨dn,hs,V,R,h1,h2,h3,h4,h5,hr⟩:=hinv
  have hSlen:(stX effs 0 (fun j=>X.getD j false) st).S.length = st.S.length:=stX_len ..
  by_cases hhv:∃ q ∈ hv,q.1 = i
  ·obtain ⟨q,hq,hqi⟩:=hhv
   subst hqi
   have hqs:q ∈ hs:=by
    rw [h1] at hq
    rcases List.mem_append.1 hq with h | h
    ·rw [h2 q h] at hXi;cases hXi
    ·exact h
   obtain ⟨q0,hs',rfl⟩:∃ q0 hs',hs = q0 :: hs':=by
    cases hs with
    | nil=>cases hqs
    | cons q0 hs'=>exact ⟨q0,hs',rfl⟩
   have hmask:=masks_spec (fun k=>X.getD k false || decide (k = q.1)) ops.toList [] (fun k o hk hXk ee hee hb=>by
    simp only [List.length_nil,Nat.zero_add,Bool.or_eq_true,decide_eq_true_eq] at hXk ⊢
    rcases hXk with h | h
    ·exact .inl (hdc k o hk h ee hee hb)
    ·subst h
     have:o = ops[q.1]:=by simpa [hin] using hk.symm
     subst this
     exact .inl (hpre ee hee hb)) (fun j m h=>by simp at h)
   have hq0:q0.1 = q.1:=by
    rcases List.mem_cons.1 hqs with rfl | hqs
    ·rfl
    ·rw [h1] at hch
     have hp:=(List.pairwise_cons.1 (List.pairwise_append.1 hch).2.1).1 q hqs
     obtain ⟨_,m,hm1,hm2⟩:=hp
     have:=hmask q.1 m hm1 (by simp) q0.1 hm2
     simp only [Bool.or_eq_true,decide_eq_true_eq] at this
     rcases this with h | h
     ·rw [h3 q0 (by simp)] at h;cases h
     ·exact h
   obtain ⟨e',he',g1,g2,g3,g4,g5⟩:=hvi q0 (by rw [h1];simp)
   rw [hq0,he] at he'
   injection he' with he'
   subst he'
   rw [hq0] at g3
   have hA:=h5 (V ++ (stX effs 0 (fun j=>X.getD j false) st).T) (stX effs 0 (fun j=>X.getD j false) st).S (fun t ht=>by
    rw [← g2] at ht
    rw [look_app,look_app,hrT t ht,g3]) m0 a w hr
   unfold wpOpIn
   simp only [ho]
   rw [← g1,heo] at hA
   unfold wpListIn at hA
   have hw:Region.wanted ops[q.1] (yielded ops a.tmps) = true:=by rw [← heo];simp [Region.wanted,g5]
   have hw2:Region.wanted ops[q.1] (yielded #[] a.tmps) = true:=by rw [← heo];simp [Region.wanted,g5]
   rw [if_pos hw2] at hA
   rw [if_pos hw]
   refine wpIn_nQ (fun a' w' hh=>?_) (fun ex a' w' ⟨st',_,hx,_⟩=>hx) hA
   obtain ⟨st',hr',_,u,R',hle,hHC⟩:=hh
   refine next a' w' ⟨dn ++ [q0],hs',putD V ops[q.1].dst u,R',by rw [h1];simp,fun p hp=>?_,fun p hp=>?_,fun d hd=>?_,hHC,?_⟩
   ·rw [hX']
    rcases List.mem_append.1 hp with hp | hp
    ·rw [h2 p hp];rfl
    ·have:p = q0:=by simpa using hp
     subst this
     simp [hq0]
   ·rw [hX']
    have h6:=h3 p (by simp [hp])
    rw [h6]
    have:p.1 ≠ q.1:=fun h=>by
     rw [h1] at hch
     have:=((List.pairwise_cons.1 (List.pairwise_append.1 hch).2.1).1 p hp).1
     omega
    simp [this]
   ·cases hdd:ops[q.1].dst with
    | none =>
     rw [hdd] at hd
     obtain ⟨p,hp,hpd⟩:=h4 d hd
     exact ⟨p,by simp [hp],hpd⟩
    | some d' =>
     rw [hdd] at hd
     by_cases hdeq:d = d'
     ·subst hdeq
      exact ⟨q0,by simp,by rw [← g1,heo,hdd]⟩
     ·have hd':look V d ≠ none:=by
       simp only [putD,look_cons,if_neg hdeq] at hd
       exact hd
      obtain ⟨p,hp,hpd⟩:=h4 d hd'
      exact ⟨p,by simp [hp],hpd⟩
   ·rw [hS2]
    have hwS:(e.app (stX effs 0 (fun j=>X.getD j false) st)).S = (stX effs 0 (fun j=>X.getD j false) st).S:=by
     show setAll _ e.wS = _
     rw [g4];rfl
    rw [hwS]
    refine Rel.congr (hr'.weakH hle) fun d v hv=>?_
    rw [look_app] at hv
    cases hdd:ops[q.1].dst with
    | none =>
     rw [hdd] at hv
     simp only [putD] at hv ⊢
     rw [look_app]
     rw [hT2] at hv
     simp only [Eff.app,heo,hdd,putD] at hv
     exact hv
    | some d' =>
     rw [hdd] at hv
     simp only [putD,look_cons] at hv ⊢
     by_cases hdeq:d = d'
     ·simp only [if_pos hdeq] at hv ⊢
      simpa using hv
     ·simp only [if_neg hdeq] at hv ⊢
      rw [look_app]
      rw [hT2] at hv
      simp only [Eff.app,heo,hdd,putD,look_cons,if_neg hdeq] at hv
      exact hv
  ·have hno:∀ q ∈ hv,q.1 ≠ i:=fun q hq h=>hhv ⟨q,hq,h⟩
   obtain ⟨hloc,hrs,hws,hdst⟩:=hli i e hno he
   have hV:∀ d,(∃ q ∈ dn,q.2.1.dst = some d) → d ∉ e.rT ∧ e.o.dst ≠ some d:=fun d ⟨q,hq,hqd⟩=>hdst q (by rw [h1];simp [hq]) d hqd
   have hl:=hloc m0 (V ++ (stX effs 0 (fun j=>X.getD j false) st).T) ((stX effs 0 (fun j=>X.getD j false) st).S ++ R) a w (fun t ht=>by
    rw [look_app]
    cases hVt:look V t with
    | none=>rw [Option.none_or];exact hrT t ht
    | some v=>exact absurd ht (hV t (h4 t (by rw [hVt];simp))).1) (fun p hp=>by
    rw [List.getElem?_append_left (by rw [hSlen];exact hrs p hp)]
    exact hrS p hp) hr
   have hnew:∀ a' w',Rel nt m0 (e.app ⟨V ++ (stX effs 0 (fun j=>X.getD j false) st).T,(stX effs 0 (fun j=>X.getD j false) st).S ++ R⟩) a' w' → Rel nt m0 ⟨V ++ (stX effs 0 (fun j=>(X.setIfInBounds i true).getD j false) st).T,(stX effs 0 (fun j=>(X.setIfInBounds i true).getD j false) st).S ++ R⟩ a' w':=by
    intro a' w' hr'
    rw [hS2]
    have e1:(e.app ⟨V ++ (stX effs 0 (fun j=>X.getD j false) st).T,(stX effs 0 (fun j=>X.getD j false) st).S ++ R⟩).S = (e.app (stX effs 0 (fun j=>X.getD j false) st)).S ++ R:=by
     show setAll _ e.wS = setAll _ e.wS ++ R
     exact setAll_left fun q hq=>by rw [hSlen];exact hws q hq
    rw [← e1]
    refine Rel.congr hr' fun d v hv=>?_
    rw [look_app,hT2] at hv
    show look (putD (V ++ (stX effs 0 (fun j=>X.getD j false) st).T) e.o.dst e.v) d = some v
    cases hdd:e.o.dst with
    | none =>
     simp only [Eff.app,hdd,putD] at hv ⊢
     rw [look_app];exact hv
    | some d' =>
     simp only [Eff.app,hdd,putD,look_cons] at hv ⊢
     by_cases hdeq:d = d'
     ·subst hdeq
      cases hVt:look V d with
      | none=>rw [hVt] at hv;simpa using hv
      | some x=>exact absurd hdd (hV d (h4 d (by rw [hVt];simp))).2
     ·rw [if_neg hdeq] at hv ⊢
      rw [look_app];exact hv
   have nx:∀ a' w',Rel nt m0 (e.app ⟨V ++ (stX effs 0 (fun j=>X.getD j false) st).T,(stX effs 0 (fun j=>X.getD j false) st).S ++ R⟩) a' w' → wpAnyIn (FW ro) 0 P .any ops (fun e a' w'=>∃ st',Rel nt m0 st' a' w' ∧ Q e st') fuel (X.setIfInBounds i true) a' w':=fun a' w' hr' =>
    next a' w' ⟨dn,hs,V,R,h1,fun q hq=>by rw [hX',h2 q hq];rfl,fun q hq=>by
     rw [hX',h3 q hq]
     simp [hno q (by rw [h1];simp [hq])],h4,h5,hnew a' w' hr'⟩
   unfold wpOpIn
   simp only [ho]
   rw [heo] at hl
   by_cases hw:Region.wanted ops[i] (yielded ops a.tmps) = true
   ·rw [if_pos hw] at hl ⊢
    exact wpIn_fw hl nx
   ·rw [if_neg hw] at hl ⊢
    exact ⟨fun _ _=>trivial,nx _ _ hl⟩
theorem stX_nil' (st:St) (X:Nat → Bool):stX [] 0 X st = st:=rfl
def lightB (n:Nat) (effs:List Eff) (hv:List (Nat × Option Nat)):Bool:=(List.range effs.length).all fun i=>(hv.any fun q=>Nat.beq q.1 i) || match effs[i]? with
 | none=>true
 | some e=>e.rS.all (fun p=>Nat.blt p n) && e.wS.all (fun q=>Nat.blt q.1 n) && hv.all fun q=>!memD q.2 e.rT && !sameD e.o.dst q.2
def chainB:List Nat → List Nat → Bool
 | [],_=>true
 | p :: r,ms=>r.all (fun q=>Nat.blt p q && (ms.getD q 0).testBit p && Nat.blt q ms.length) && chainB r ms
theorem chainB_spec {ms:List Nat}:∀ {hs:List Nat},chainB hs ms = true → hs.Pairwise fun p q=>p < q ∧ ∃ m,ms[q]? = some m ∧ m.testBit p = true
 | [],_=>.nil
 | p :: r,h=>by
  simp only [chainB,Bool.and_eq_true,List.all_eq_true,Nat.blt_eq] at h
  refine .cons (fun q hq=>?_) (chainB_spec h.2)
  obtain ⟨⟨h1,h2⟩,h3⟩:=h.1 q hq
  refine ⟨h1,ms[q],by simp [h3],?_⟩
  simpa [List.getD_eq_getElem?_getD,List.getElem?_eq_getElem h3] using h2
theorem lightB_spec {n:Nat} {effs:List Eff} {hv:List (Nat × Option Nat)} (h:lightB n effs hv = true) {i:Nat} {e:Eff} (hi:∀ q ∈ hv,q.1 ≠ i) (he:effs[i]? = some e):(∀ p ∈ e.rS,p < n) ∧ (∀ q ∈ e.wS,q.1 < n) ∧ ∀ q ∈ hv,∀ d,q.2 = some d → d ∉ e.rT ∧ e.o.dst ≠ some d:=by
 have h1:=List.all_eq_true.1 h i (List.mem_range.2 (List.getElem?_eq_some_iff.1 he).1)
 have h2:(hv.any fun q=>Nat.beq q.1 i) = false:=by
  rw [List.any_eq_false]
  intro q hq h3
  exact hi q hq (Nat.eq_of_beq_eq_true h3)
 rw [h2,he] at h1
 simp only [Bool.false_or,Bool.and_eq_true,List.all_eq_true,Nat.blt_eq] at h1
 refine ⟨h1.1.1,h1.1.2,fun q hq d hd=>?_⟩
 obtain ⟨h3,h4⟩:=h1.2 q hq
 rw [hd] at h3 h4
 refine ⟨fun hm=>?_,fun e2=>?_⟩
 ·have:memD (some d) e.rT = true:=List.any_eq_true.2 ⟨d,hm,Nat.beq_refl d⟩
  rw [this] at h3;cases h3
 ·rw [e2] at h4
  have:sameD (some d) (some d) = true:=by simp [sameD]
  rw [this] at h4;cases h4
def RGoH (ro:Option Nat) (n:Nat) (P:Program) (nt:Nat) (l:List Oper) (Q:Exit → St → Prop) (R0:List Slot) (rest:List Oper) (acc:List Eff) (hacc:List Hv) (st:St):Prop :=
 ∃ effs hvr,effs.map (·.o) = rest ∧
  (∀ q ∈ hvr,∃ k e,q.1 = acc.length + k ∧ effs[k]? = some e ∧ e.o = q.2.1 ∧ e.rT = q.2.2.1 ∧ (stX effs 0 (fun j=>decide (j < k)) st).T = q.2.2.2 ∧ e.wS = [] ∧ e.o.guard = none) ∧
  (∀ k e,(∀ q ∈ hvr,q.1 ≠ acc.length + k) → effs[k]? = some e → LocOK P nt l.toArray e (stX effs 0 (fun j=>decide (j < k)) st)) ∧
  compat (acc ++ effs) (masks l []) = true ∧ chainB ((hacc ++ hvr).map (·.1)) (masks l []) = true ∧ lightB n (acc ++ effs) ((hacc ++ hvr).map fun q=>(q.1,q.2.1.dst)) = true ∧
  HC ro P nt Q (stX effs 0 (fun _=>true) st).T (stX effs 0 (fun _=>true) st).S (hacc ++ hvr) [] R0
section
variable {Q:Exit → St → Prop} {l rest:List Oper} {acc:List Eff} {hacc:List Hv} {st:St} {T:List (Nat × AV)} {S R0:List Slot} {xs:List (Operand × AV)} {rS wS:List (Nat × Slot)} {v:AV} {op:Op} {ty:TypeId} {pos:String} {after:Array Edge} {dst:Option Tmp} {n:Nat}
theorem AWP.region_runH {id:Nat} (F0 R0:List Slot) (hn:F0.length = n) (hm:P.follows .mixedOrders = true) (hdn:down l 0 = true) (h:RGoH ro n P nt l Q R0 l [] [] ⟨T,F0⟩):AWP ro P nt (.region id l.toArray true) Q ⟨T,F0 ++ R0⟩:=by
 obtain ⟨effs,hv,h1,h2,h3,h4,h5,h6,h7⟩:=h
 rw [List.nil_append] at h4 h5 h6 h7
 intro m0 a w hrel
 refine wpIn_region_any hm (any_orderH (m0:=m0) (st:=⟨T,F0⟩) (effs:=effs) (hv:=hv) (R0:=R0) (by simpa using h1) (by simpa using h4) (by simpa using hdn) (fun q hq=>?_) (by simpa [List.pairwise_map] using chainB_spec h5) (fun i e hi he=>?_) _ _ a _ (by simp) ?_ ?_ ?_)
 ·obtain ⟨k,e,g1,g2,g3,g4,g5,g6,g7⟩:=h2 q hq
  rw [List.length_nil,Nat.zero_add] at g1
  subst g1
  exact ⟨e,g2,g3,g4,g5,g6,g7⟩
 ·have hl:=lightB_spec h6 (i:=i) (e:=e) (fun q hq=>by
   obtain ⟨p,hp,rfl⟩:=List.mem_map.1 hq
   exact hi p hp) he
  refine ⟨h3 i e (fun q hq=>by rw [List.length_nil,Nat.zero_add];exact hi q hq) he,fun p hp=>by rw [hn];exact hl.1 p hp,fun q hq=>by rw [hn];exact hl.2.1 q hq,fun q hq d hd=>hl.2.2 (q.1,q.2.1.dst) (List.mem_map.2 ⟨q,hq,rfl⟩) d hd⟩
 ·intro j o hj hX
  have:j < l.length:=(List.getElem?_eq_some_iff.1 hj).1
  simp [this] at hX
 ·exact Nat.le_trans (List.length_filter_le _ _) (by simp)
 ·have:(fun j=>(Array.replicate l.toArray.size false).getD j false) = fun _=>false:=by
   funext j
   simp only [Array.getD_eq_getD_getElem?,Array.getElem?_replicate]
   split <;> rfl
  refine ⟨[],hv,[],R0,rfl,fun q hq=>absurd hq (by simp),fun q hq=>congrFun this q.1,fun d hd=>absurd rfl hd,h7,?_⟩
  rw [this,stX_none]
  exact hrel.draw _
theorem RGoH.nil (hc:compat acc (masks l []) = true) (h5:chainB (hacc.map (·.1)) (masks l []) = true) (h6:lightB n acc (hacc.map fun q=>(q.1,q.2.1.dst)) = true) (k:HC ro P nt Q st.T st.S hacc [] R0):RGoH ro n P nt l Q R0 [] acc hacc st :=
 ⟨[],[],rfl,fun q hq=>(by cases hq),fun k e _ he=>(by cases he),by simpa using hc,by simpa using h5,by simpa using h6,by rw [List.append_nil];exact k⟩
theorem RGoH.step_ {o:Oper} {e:Eff} {st':St} (h:Run P nt l.toArray [o] st [e] st') (k:RGoH ro n P nt l Q R0 rest (acc ++ [e]) hacc st'):RGoH ro n P nt l Q R0 (o :: rest) acc hacc st:=by
 obtain ⟨h1,h2,h3⟩:=h.spec
 obtain ⟨effs,hvr,k1,k2,k3,k4,k5,k6,k7⟩:=k
 have hst:st' = e.app st:=by rw [h1,stX_all];rfl
 subst hst
 simp only [List.map_cons,List.map_nil,List.cons.injEq,and_true] at h2
 refine ⟨e :: effs,hvr,by simp [k1,h2],fun q hq=>?_,fun i e' hi he=>?_,by simpa using k4,k5,by simpa using k6,by rw [stX_all];exact k7⟩
 ·obtain ⟨i,e',g1,g2,g3,g4,g5,g6,g7⟩:=k2 q hq
  refine ⟨i + 1,e',by rw [g1,List.length_append,List.length_singleton];omega,by simpa using g2,g3,g4,by rw [stX_cons];exact g5,g6,g7⟩
 ·cases i with
  | zero =>
   simp at he
   subst he
   have:=h3 0 e rfl
   rw [stX_zero] at this ⊢
   exact this
  | succ i =>
   rw [stX_cons]
   exact k3 i e' (fun q hq=>by rw [List.length_append,List.length_singleton];have:=hi q hq;omega) (by simpa using he)
theorem RGoH.go (k:RGoH ro n P nt l Q R0 rest (acc ++ [⟨⟨dst,op,ty,pos,after,none⟩,tmpsOf xs,rS.map (·.1),v,[]⟩]) hacc ⟨putD T dst v,S⟩) (h:Stp none P ⟨dst,op,ty,pos,after,none⟩ T S xs rS v []:=by exact Stp.f0) (hd:dstOk dst nt = true:=by rfl):RGoH ro n P nt l Q R0 (⟨dst,op,ty,pos,after,none⟩ :: rest) acc hacc ⟨T,S⟩:=RGoH.step_ (Run.p h hd .nil) k
theorem RGoH.goS (k:RGoH ro n P nt l Q R0 rest (acc ++ [⟨⟨dst,op,ty,pos,after,none⟩,tmpsOf xs,rS.map (·.1),v,wS⟩]) hacc ⟨putD T dst v,setAll S wS⟩) (h:Stp none P ⟨dst,op,ty,pos,after,none⟩ T S xs rS v wS:=by exact Stp.st) (hd:dstOk dst nt = true:=by rfl):RGoH ro n P nt l Q R0 (⟨dst,op,ty,pos,after,none⟩ :: rest) acc hacc ⟨T,S⟩:=RGoH.step_ (Run.s h hd .nil) k
theorem RGoH.skip (rT:List Nat) (k:RGoH ro n P nt l Q R0 rest (acc ++ [⟨⟨dst,op,ty,pos,after,none⟩,rT,[],.dead,[]⟩]) (hacc ++ [(acc.length,⟨dst,op,ty,pos,after,none⟩,rT,T)]) ⟨putD T dst .dead,S⟩):RGoH ro n P nt l Q R0 (⟨dst,op,ty,pos,after,none⟩ :: rest) acc hacc ⟨T,S⟩:=by
 obtain ⟨effs,hvr,k1,k2,k3,k4,k5,k6,k7⟩:=k
 refine ⟨⟨⟨dst,op,ty,pos,after,none⟩,rT,[],.dead,[]⟩ :: effs,(acc.length,⟨dst,op,ty,pos,after,none⟩,rT,T) :: hvr,by simp [k1],fun q hq=>?_,fun i e' hi he=>?_,by simpa using k4,by simpa using k5,by simpa using k6,by rw [stX_all,List.append_cons];exact k7⟩
 ·rcases List.mem_cons.1 hq with rfl | hq
  ·exact ⟨0,_,rfl,rfl,rfl,rfl,by rw [stX_zero],rfl,rfl⟩
  ·obtain ⟨i,e',g1,g2,g3,g4,g5,g6,g7⟩:=k2 q hq
   exact ⟨i + 1,e',by rw [g1,List.length_append,List.length_singleton];omega,by simpa using g2,g3,g4,by rw [stX_cons];exact g5,g6,g7⟩
 ·cases i with
  | zero=>exact absurd rfl (hi (acc.length,⟨dst,op,ty,pos,after,none⟩,rT,T) (by simp))
  | succ i =>
   rw [stX_cons]
   exact k3 i e' (fun q hq=>by rw [List.length_append,List.length_singleton];have:=hi q (by simp [hq]);omega) (by simpa using he)
def RdH (rT:List Nat) (L:List (Nat × AV)):List (Nat × AV) → Prop
 | []=>True
 | p :: r=>rT.contains p.1 = true ∧ look L p.1 = some p.2 ∧ RdH rT L r
theorem RdH.at {rT:List Nat} {L:List (Nat × AV)}:∀ {xs:List (Nat × AV)},RdH rT L xs → ∀ d v,look xs d = some v → d ∈ rT ∧ look L d = some v
 | [],_,d,v,h=>by cases h
 | p :: r,hx,d,v,h=>by
  obtain ⟨h1,h2,h3⟩:=hx
  rw [show p :: r = (p.1,p.2) :: r from rfl,look_cons] at h
  split at h
  ·rename_i e
   subst e
   injection h with h
   subst h
   exact ⟨by simpa using h1,h2⟩
  ·exact RdH.at h3 d v h
theorem HC.step {q:Hv} {hs:List Hv} {V Tf:List (Nat × AV)} {Ff R:List Slot} (ys:List (Nat × AV)) (hx:RdH q.2.2.1 (V ++ q.2.2.2) ys) (k:∀ T F,AOps ro P nt #[] (fun ex st'=>ex = .normal ∧ ∃ u R',st'.LeH ⟨putD (ys ++ T) q.2.1.dst u,F ++ R'⟩ ∧ HC ro P nt Q Tf Ff hs (putD V q.2.1.dst u) R') [q.2.1] ⟨ys ++ T,F ++ R⟩):HC ro P nt Q Tf Ff (q :: hs) V R:=by
 intro T F hT m0 a w hr
 have hin:∀ d v,look (ys ++ T) d = some v → look T d = some v:=fun d v h=>by
  rw [look_app] at h
  cases hy:look ys d with
  | none=>rw [hy] at h;simpa using h
  | some x =>
   rw [hy] at h
   have hxv:x = v:=by simpa using h
   subst hxv
   obtain ⟨h1,h2⟩:=hx.at d x hy
   rw [hT d h1,h2]
 have hout:∀ d v,look T d = some v → look (ys ++ T) d = some v:=fun d v h=>by
  rw [look_app]
  cases hy:look ys d with
  | none=>simpa using h
  | some x =>
   obtain ⟨h1,h2⟩:=hx.at d x hy
   rw [hT d h1,h2] at h
   simpa using h
 have h1:=k T F m0 a w (Rel.congr hr hin)
 have hcv:∀ st':St,(∃ u R',st'.LeH ⟨putD (ys ++ T) q.2.1.dst u,F ++ R'⟩ ∧ HC ro P nt Q Tf Ff hs (putD V q.2.1.dst u) R') → ∃ u R',st'.LeH ⟨putD T q.2.1.dst u,F ++ R'⟩ ∧ HC ro P nt Q Tf Ff hs (putD V q.2.1.dst u) R':=by
  rintro st' ⟨u,R',hle,hh⟩
  refine ⟨u,R',⟨fun d v hd=>hle.T d v ?_,hle.S⟩,hh⟩
  cases hdd:q.2.1.dst with
  | none=>rw [hdd] at hd;exact hout d v hd
  | some d' =>
   rw [hdd] at hd
   simp only [putD,look_cons] at hd ⊢
   split
   ·rename_i e;rw [if_pos e] at hd;exact hd
   ·rename_i e;rw [if_neg e] at hd;exact hout d v hd
 have hK:∀ a w,wpListIn (FW ro) 0 P #[] (fun e a' w'=>∃ st':St,Rel nt m0 st' a' w' ∧ e = .normal ∧ ∃ u R',st'.LeH ⟨putD (ys ++ T) q.2.1.dst u,F ++ R'⟩ ∧ HC ro P nt Q Tf Ff hs (putD V q.2.1.dst u) R') [] a w → wpListIn (FW ro) 0 P #[] (fun e a' w'=>∃ st':St,Rel nt m0 st' a' w' ∧ e = .normal ∧ ∃ u R',st'.LeH ⟨putD T q.2.1.dst u,F ++ R'⟩ ∧ HC ro P nt Q Tf Ff hs (putD V q.2.1.dst u) R') [] a w:=by
  rintro a w ⟨st',h2,h3,h4⟩
  exact ⟨st',h2,h3,hcv st' h4⟩
 unfold wpListIn at h1 ⊢
 by_cases hw:Region.wanted q.2.1 (yielded #[] a.tmps) = true
 ·rw [if_pos hw] at h1 ⊢
  exact wpIn_nQ hK (fun ex a' w' ⟨st',_,hx,_⟩=>hx) h1
 ·rw [if_neg hw] at h1 ⊢
  exact ⟨h1.1,hK _ _ h1.2⟩
end
end
end
section
section
variable {P:Program} {nt:Nat} {T:List (Nat × AV)} {S:List Slot} {ty t k e:TypeId} {pos:String} {after:Array Edge} {d:Nat} {c:Option (List Bool)} {g:Option (Nat × Bool)} {x y:Operand} {X Y p q:Nat} {gf:Int → Option Value} {s:Nat} {z0:Value} {K:AV → Value → Prop} {v:AV}
theorem OpT.lookP {n:Int} {u:Value} [TMap P t k e z0] (hv:(gf n).getD z0 = u) (hn : -9223372036854775808 ≤ n ∧ n ≤ 9223372036854775807) (hone:u.oneCell' = true) (hK:K v u) :
  OpT P ⟨some d,.lookup t x y false,ty,pos,after,g⟩ [(x,.mp X),(y,.prim (.int .i64 n))] [(p,(X,.ob (MapF P k e gf s))),(q,(Y,.tv K))] v []:=by
 subst hv
 intro nt m0 T S a w hx hS hd hr
 have h1:=OpT.lookup1 (dst:=some d) (ty:=ty) (pos:=pos) (after:=after) (g:=g) (p:=p) (x:=x) (y:=y) (X:=X) (s:=s) (gf:=gf) (TMap.h (t:=t) (z0:=z0)) (TMap.hk (t:=t) (z0:=z0)) (TMap.hz (t:=t)) (TMap.h0 (P:=P) (t:=t)) hn hone nt m0 T S a w hx (fun q' hq'=>hS q' (by simp only [List.mem_singleton] at hq';simp [hq'])) hd hr
 refine Oper.wp_mono ?_ h1
 rintro a' w' ⟨m,N,Z,rfl,h2,h3,h4⟩
 have hq:S[q]? = some (Y,AO.tv K):=hS (q,(Y,AO.tv K)) (by simp)
 have h2':Z.map (·.1) = S:=h2
 rw [← h2',List.getElem?_map,Option.map_eq_some_iff] at hq
 obtain ⟨⟨z,bs⟩,hz,hze⟩:=hq
 have hze:z = (Y,AO.tv K):=hze
 subst hze
 obtain ⟨_,_,hO⟩:=h3.obj _ (List.mem_of_getElem? hz)
 refine ⟨m,N,Z,rfl,h2,h3,h4.1,h4.2.1,fun e v' he=>?_⟩
 simp only [putD,look_cons] at he
 split at he
 ·rename_i e';subst e'
  injection he with he;subst he
  obtain ⟨u',h5,h6⟩:=h4.2.2 e (.prim ((gf n).getD z0)) (by simp only [putD,look_cons,if_true])
  refine ⟨u',h5,?_⟩
  rw [h6.prim]
  exact hO _ _ hK
 ·rename_i e'
  exact h4.2.2 e v' (by simp only [putD,look_cons,if_neg e'];exact he)
theorem W.lookP {n:Int} {u:Value} (v:AV) [TMap P t k e z0] (hv:(gf n).getD z0 = u) (hn : -9223372036854775808 ≤ n ∧ n ≤ 9223372036854775807) (hone:u.oneCell' = true) (hK:K v u) (hx:Rd c T x (.mp X)) (hy:Rd c T y (.prim (.int .i64 n))) (hSp:At S p (X,.ob (MapF P k e gf s))) (hSq:At S q (Y,.tv K)) :
  Stp c P ⟨some d,.lookup t x y false,ty,pos,after,g⟩ T S [(x,.mp X),(y,.prim (.int .i64 n))] [(p,(X,.ob (MapF P k e gf s))),(q,(Y,.tv K))] v [] :=
 ⟨.lookP hv hn hone hK,.cons hx (.cons hy .nil),.cons hSp (.cons hSq .nil)⟩
end
end
section
variable {ro:Option Nat}
section
variable {P:Program} {ty t t' te:TypeId} {pos:String} {after:Array Edge} {g:Option (Nat × Bool)} {dst:Option Tmp} {x y z:Operand} {l:List AV} {sz:Nat} {c:Option (List Bool)} {T:List (Nat × AV)} {S:List Slot} {i j:Int} {k k2:IntKind}
end
theorem eq_twoF {P:Program} {t:TypeId} (n:Nat) (h1:P.underlying t = some (.struct (P.fieldsOf t))) (h2:P.stoodInHeld t = false) (h:two2 P t = true) (a b c d:Int) (w:World):(Op.equalIn (n + 2) t (.agg #[.int .i64 a,.int .i64 b]) (.agg #[.int .i64 c,.int .i64 d])).run P w = .ok (decide (a = c) && decide (b = d)) w:=by
 rw [run_equalIn_agg w (n + 1) t _ _ h1 h2]
 unfold two2 at h
 split at h
 ·rename_i f1 f2 hf
  simp only [Bool.and_eq_true,bne_iff_ne,ne_eq,beq_iff_eq] at h
  obtain ⟨⟨⟨⟨n1,n2⟩,o1⟩,o2⟩,hu⟩:=h
  split at hu
  ·rename_i k1 k2 u1 u2
   have p1:∀ x y:Int,(part f1.type #[.int .i64 x,.int .i64 y] f1.offset).run P w = .ok (.int .i64 x) w:=fun x y=>run_part_int u1 (by rw [o1];rfl) w
   have p2:∀ x y:Int,(part f2.type #[.int .i64 x,.int .i64 y] f2.offset).run P w = .ok (.int .i64 y) w:=fun x y=>run_part_int u2 (by rw [o2];rfl) w
   have q1:∀ a c:Int,(Op.equalIn (n + 1) f1.type (.int .i64 a) (.int .i64 c)).run P w = .ok (a == c) w:=fun a c=>run_equalIn_int (P:=P) w n f1.type .i64 k1 a c u1
   have q2:∀ a c:Int,(Op.equalIn (n + 1) f2.type (.int .i64 a) (.int .i64 c)).run P w = .ok (a == c) w:=fun a c=>run_equalIn_int (P:=P) w n f2.type .i64 k2 a c u2
   rw [hf]
   by_cases e1:a = c
   ·by_cases e2:b = d
    ·simp [Op.eqFields,n1,n2,Sem.run_bind,p1,p2,q1,q2,e1,e2,Sem.run_pure,Sem.run_ite,Result.andThen_ok]
    ·simp [Op.eqFields,n1,n2,Sem.run_bind,p1,p2,q1,q2,e1,e2,Sem.run_pure,Sem.run_ite,Result.andThen_ok]
   ·simp [Op.eqFields,n1,Sem.run_bind,p1,q1,e1,Sem.run_pure,Sem.run_ite,Result.andThen_ok]
  ·cases hu
 ·cases h
end
section
theorem St.nilT {nt d:Nat} {st:St} {as bs:List AV} (t:TypeId) (sz:Nat) (hd:look st.T d = some (.agg as)) (hI:Ics (NilB t sz) as bs):St.To nt st fun st'=>st' = ⟨(d,.agg bs) :: st.T,st.S⟩:=by
 rintro m0 a w ⟨m,N,Z,rfl,h2,h3,h4⟩
 refine ⟨⟨(d,.agg bs) :: st.T,st.S⟩,⟨m,N,Z,rfl,h2,h3,h4.1,h4.2.1,fun e v' he=>?_⟩,rfl⟩
 rw [look_cons] at he
 split at he
 ·rename_i e';subst e'
  injection he with he;subst he
  obtain ⟨u,h5,cells,h6,h7⟩:=h4.2.2 _ _ hd
  exact ⟨u,h5,cells,h6,Ics.vcs (Mem.Le.refl m) (fun a b h c bs k=>by
   cases h
   obtain ⟨⟨rfl,_⟩,rfl⟩:=k
   exact ⟨rfl,none,0,rfl,Nat.le_refl _,by simp,fun h0=>by simp at h0⟩) rfl hI h7⟩
 ·exact h4.2.2 e v' he
section
variable {ro:Option Nat} {P:Program} {nt:Nat} {c:Code} {Q:Exit → St → Prop} {T:List (Nat × AV)} {S:List Slot} {ops:Array Oper} {rest:List Oper} {as bs:List AV}
theorem AOps.nilT (d:Nat) (t:TypeId) (sz:Nat) (hI:Ics (NilB t sz) as bs) (k:AOps ro P nt ops Q rest ⟨(d,.agg bs) :: T,S⟩) (hd:look T d = some (.agg as):=by rfl):AOps ro P nt ops Q rest ⟨T,S⟩:=.ghost (St.nilT (st:=⟨T,S⟩) t sz hd hI) fun st' e=>by subst e;exact k
end
end
end Go.Proofs.YtnlekapghebhlaaGreat
