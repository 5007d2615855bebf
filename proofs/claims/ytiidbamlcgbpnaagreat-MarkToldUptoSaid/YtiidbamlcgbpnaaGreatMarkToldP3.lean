/-
  Part 3 of the texts under the law MarkTold: the layer of abstract values, walks and plain laws. Conditions: those that each theorem names.
-/
import Derived.Laws.StructEq
import Derived.Lib.Overlaps
import Derived.Laws.BytesString
import Derived.Laws.BitsAllLaws
import Derived.Maps.OwnSet
import Derived.LaidEqlPtr
import Derived.Test.YtiidbamlcgbpnaaGreatMarkToldP2
namespace Go.Proofs.YtiidbamlcgbpnaaGreat
set_option linter.unusedVariables false
set_option linter.unusedSimpArgs false
set_option linter.defProp false
set_option maxRecDepth 10000
set_option maxHeartbeats 4000000
section
variable {ro:Option Nat}
theorem Pos.f{S as bs:List AB}{rs ws:List (Nat×AB)}(h:Pos S as bs rs ws:=by(repeat (first|exact .nil|(apply Pos.cons;exact At.f)))):Pos S as bs rs ws:=h
section
variable {P:Program}{nt:Nat}{ops:Array Oper}{Q:Exit->St->Prop}{l rest:List Oper}{acc:List Eff}{T:List (Nat×AV)}{S:List AB}{rS wS:List (Nat×AB)}{v:AV}{ty:TypeId}{pos:String}{after:Array Edge}{dst:Option Tmp}{ats:Array TypeId}{f:FuncId}{r:AV}{Sin Sout news:List AB}{c:Option (List Bool)}{code:Code}
def CO:List Nat->Bool
 |[]=>true
 |a::l=>!(l.any (Nat.beq a))&&CO l
theorem B5:∀{l:List Nat},CO l=true->l.Nodup
 |[],_=>.nil
 |a::l,h=>by
  simp only[CO,Bool.and_eq_true,Bool.not_eq_true',List.any_eq_false]at h;exact List.nodup_cons.2 ⟨λhm=>h.1 a hm (by simp),B5 h.2⟩
theorem AWP.thawIn{q Y:Nat}{t t2:TypeId}{sz sz2:Nat}{ll l2:List AV}{l2':Nat->List AV}(hq:At S q (Y,.row t2 sz2 l2))(hI:∀X,Hos (.lst true t sz ll) (.sl X 0 ll.length) l2 (l2' X))(k:∀X,AWP ro P nt code Q ⟨T,(X,.row t sz ll)::S.set q (Y,.row t2 sz2 (l2' X))⟩):AWP ro P nt code Q ⟨T,S⟩:=
 .ghost (St.thawIn (st:=⟨T,S⟩) hq hI) λst' ⟨X,e⟩=>by subst e;exact k X
theorem AWP.closeIn{p q X Y n:Nat}{t t2:TypeId}{sz sz2:Nat}{ll l2 l2':List AV}(hS:At S p (X,.row t sz ll))(hq:At S q (Y,.row t2 sz2 l2))(hpq:Nat.beq p q=false)(hn:n=ll.length)(hI:Hos (.sl X 0 n) (.lst true t sz ll) l2 l2')(k:AWP ro P nt code Q ⟨T,(S.set p (X,.used)).set q (Y,.row t2 sz2 l2')⟩):AWP ro P nt code Q ⟨T,S⟩:=
 .ghost (St.closeIn (st:=⟨T,S⟩) (λe=>by subst e;simp at hpq) hS hq hn hI) λst' e=>by subst e;exact k
theorem Qc{g:Option (Nat×Bool)}(h:Spec P f ([]) Sin λr' S'=>r'=r/\S'=Sout)(hT:TR r v news)(hpos:Pos S (Sin++BV news) (Sout++news) rS wS)(hnd:CO (rS.map (·.1))=true)(ht:Aa []=true):Stp c P ⟨dst,.call ⟨.value (.func f),#[],ats⟩,ty,pos,after,g⟩ T S [] rS v wS:=⟨DL (xs:=[]) h ht hT hpos.all.1 hpos.all.2.1 hpos.all.2.2.1 (B5 hnd),.nil,hpos.all.2.2.2⟩
theorem Ru(h:Spec P f ([]) Sin λr' S'=>r'=r/\S'=Sout)(hT:TR r v news)(k:AOps ro P nt ops Q rest ⟨AL T dst v,AM S wS⟩)(hpos:Pos S (Sin++BV news) (Sout++news) rS wS:=by exact Pos.f)(hnd:CO (rS.map (·.1))=true:=by rfl)(ht:Aa []=true:=by rfl)(hd:AK dst nt=true:=by rfl):AOps ro P nt ops Q (⟨dst,.call ⟨.value (.func f),#[],ats⟩,ty,pos,after,none⟩::rest) ⟨T,S⟩:=AOps.s (Qc h hT hpos hnd ht) hd k
theorem MC{x0:Operand}{v0:AV}{g:Option (Nat×Bool)}(h0:Rd c T x0 v0)(h:Spec P f ([v0]) Sin λr' S'=>r'=r/\S'=Sout)(hT:TR r v news)(hpos:Pos S (Sin++BV news) (Sout++news) rS wS)(hnd:CO (rS.map (·.1))=true)(ht:Aa [(x0,v0)]=true):Stp c P ⟨dst,.call ⟨.value (.func f),#[x0],ats⟩,ty,pos,after,g⟩ T S [(x0,v0)] rS v wS:=⟨DL (xs:=[(x0,v0)]) h ht hT hpos.all.1 hpos.all.2.1 hpos.all.2.2.1 (B5 hnd),(.cons h0 .nil),hpos.all.2.2.2⟩
theorem E2{x0:Operand}{v0:AV}{g:Option (Nat×Bool)}{ts:List Nat}(h:Spec P f ([v0]) Sin λr' S'=>r'=r/\S'=Sout)(hT:TR r v news)(k:RGo P nt ops l Q rest (acc++[⟨⟨dst,.call ⟨.value (.func f),#[x0],ats⟩,ty,pos,after,g⟩,ts++Ad [(x0,v0)],rS.map (·.1),v,wS⟩]) ⟨AL T dst v,AM S wS⟩)(h0:Rd none T x0 v0:=by rfl)(hpos:Pos S (Sin++BV news) (Sout++news) rS wS:=by exact Pos.f)(hnd:CO (rS.map (·.1))=true:=by rfl)(ht:Aa [(x0,v0)]=true:=by rfl)(hd:AK dst nt=true:=by rfl)(hg:Grd ops T g ts:=by first|exact .none|exact .met rfl rfl (by first|rfl|assumption)):RGo P nt ops l Q (⟨dst,.call ⟨.value (.func f),#[x0],ats⟩,ty,pos,after,g⟩::rest) acc ⟨T,S⟩:=I8 (MC h0 h hT hpos hnd ht) hd hg k
theorem Qk{x0:Operand}{v0:AV}{β:Type}{C:β->Prop}{rr vv:β->AV}{X p:Nat}{ob:AO}{oo:β->AO}(h:Spec P f [v0] [(X,ob)] λr' S'=>∃b,C b/\r'=rr b/\S'=[(X,oo b)])[hf:∀b,Frz (rr b) (vv b)](k:∀b,C b->AOps ro P nt ops Q rest ⟨AL T dst (vv b),AM S [(p,(X,oo b))]⟩)(hSp:At S p (X,ob):=by exact At.f)(h0:Rd none T x0 v0:=by rfl)(ht:Aa [(x0,v0)]=true:=by rfl)(hd:AK dst nt=true:=by rfl):AOps ro P nt ops Q (⟨dst,.call ⟨.value (.func f),#[x0],ats⟩,ty,pos,after,none⟩::rest) ⟨T,S⟩:=D2 (xs:=[(x0,v0)]) (rS:=[(p,(X,ob))]) (nw:=λ_=>[]) (wE:=λb=>[(p,(X,oo b))]) h (λb=>.fz) (λ_=>rfl) (λ_=>.cons hSp .nil) (by simp) rfl (.cons hSp .nil) (.cons h0 .nil) ht hd k
theorem Rw{x0:Operand}{v0:AV}{t:TypeId}{sz:Nat}{ll:List AV}(h:PS P f ([v0]) (.lst true t sz ll))(k:∀Y,AOps ro P nt ops Q rest ⟨AL T dst (.sl Y 0 ll.length),(Y,.row t sz ll)::S⟩)(h0:Rd none T x0 v0:=by rfl)(ht:Aa [(x0,v0)]=true:=by rfl)(hd:AK dst nt=true:=by rfl):AOps ro P nt ops Q (⟨dst,.call ⟨.value (.func f),#[x0],ats⟩,ty,pos,after,none⟩::rest) ⟨T,S⟩:=AOps.rs λY=>AOps.s (MC h0 h (.ls (Y:=Y)) (.cons .here .nil) rfl ht) hd (k Y)
theorem O5{x:Operand}{cap:List AV}{x0:Operand}{v0:AV}{g:Option (Nat×Bool)}(hx:Rd c T x (.fn f cap))(h0:Rd c T x0 v0)(h:Spec P f (v0::cap) Sin λr' S'=>r'=r/\S'=Sout)(hT:TR r v news)(hpos:Pos S (Sin++BV news) (Sout++news) rS wS)(hnd:CO (rS.map (·.1))=true)(hs:Bm cap=true)(ht:Aa [(x0,v0)]=true):Stp c P ⟨dst,.call ⟨.value x,#[x0],ats⟩,ty,pos,after,g⟩ T S [(x,.fn f cap),(x0,v0)] rS v wS:=⟨NS (xs:=[(x0,v0)]) h hs ht hT hpos.all.1 hpos.all.2.1 hpos.all.2.2.1 (B5 hnd),(.cons hx (.cons h0 .nil)),hpos.all.2.2.2⟩
theorem MH{x:Operand}{cap:List AV}{x0:Operand}{v0:AV}(h:Spec P f (v0::cap) Sin λr' S'=>r'=r/\S'=Sout)(hT:TR r v news)(k:AOps ro P nt ops Q rest ⟨AL T dst v,AM S wS⟩)(hx:Rd none T x (.fn f cap):=by rfl)(h0:Rd none T x0 v0:=by rfl)(hpos:Pos S (Sin++BV news) (Sout++news) rS wS:=by exact Pos.f)(hnd:CO (rS.map (·.1))=true:=by rfl)(hs:Bm cap=true:=by rfl)(ht:Aa [(x0,v0)]=true:=by rfl)(hd:AK dst nt=true:=by rfl):AOps ro P nt ops Q (⟨dst,.call ⟨.value x,#[x0],ats⟩,ty,pos,after,none⟩::rest) ⟨T,S⟩:=AOps.s (O5 hx h0 h hT hpos hnd hs ht) hd k
theorem R1{x0:Operand}{v0:AV}{x1:Operand}{v1:AV}{β:Type}{C:β->Prop}{rr vv:β->AV}(h:Spec P f [v0,v1] [] λr' S'=>∃b,C b/\r'=rr b/\S'=[])[hf:∀b,Frz (rr b) (vv b)](k:∀b,C b->AOps ro P nt ops Q rest ⟨AL T dst (vv b),S⟩)(h0:Rd none T x0 v0:=by rfl)(h1:Rd none T x1 v1:=by rfl)(ht:Aa [(x0,v0),(x1,v1)]=true:=by rfl)(hd:AK dst nt=true:=by rfl):AOps ro P nt ops Q (⟨dst,.call ⟨.value (.func f),#[x0,x1],ats⟩,ty,pos,after,none⟩::rest) ⟨T,S⟩:=D2 (xs:=[(x0,v0),(x1,v1)]) (nw:=λ_=>[]) (wE:=λ_=>[]) h (λb=>.fz) (λ_=>rfl) (λ_=>.nil) .nil rfl .nil (.cons h0 (.cons h1 .nil)) ht hd k
theorem Qb{x0:Operand}{v0:AV}{x1:Operand}{v1:AV}{x2:Operand}{v2:AV}{g:Option (Nat×Bool)}(h0:Rd c T x0 v0)(h1:Rd c T x1 v1)(h2:Rd c T x2 v2)(h:Spec P f ([v0,v1,v2]) Sin λr' S'=>r'=r/\S'=Sout)(hT:TR r v news)(hpos:Pos S (Sin++BV news) (Sout++news) rS wS)(hnd:CO (rS.map (·.1))=true)(ht:Aa [(x0,v0),(x1,v1),(x2,v2)]=true):Stp c P ⟨dst,.call ⟨.value (.func f),#[x0,x1,x2],ats⟩,ty,pos,after,g⟩ T S [(x0,v0),(x1,v1),(x2,v2)] rS v wS:=⟨DL (xs:=[(x0,v0),(x1,v1),(x2,v2)]) h ht hT hpos.all.1 hpos.all.2.1 hpos.all.2.2.1 (B5 hnd),(.cons h0 (.cons h1 (.cons h2 .nil))),hpos.all.2.2.2⟩
theorem Rt{x0:Operand}{v0:AV}{x1:Operand}{v1:AV}{x2:Operand}{v2:AV}(h:Spec P f ([v0,v1,v2]) Sin λr' S'=>r'=r/\S'=Sout)(hT:TR r v news)(k:AOps ro P nt ops Q rest ⟨AL T dst v,AM S wS⟩)(h0:Rd none T x0 v0:=by rfl)(h1:Rd none T x1 v1:=by rfl)(h2:Rd none T x2 v2:=by rfl)(hpos:Pos S (Sin++BV news) (Sout++news) rS wS:=by exact Pos.f)(hnd:CO (rS.map (·.1))=true:=by rfl)(ht:Aa [(x0,v0),(x1,v1),(x2,v2)]=true:=by rfl)(hd:AK dst nt=true:=by rfl):AOps ro P nt ops Q (⟨dst,.call ⟨.value (.func f),#[x0,x1,x2],ats⟩,ty,pos,after,none⟩::rest) ⟨T,S⟩:=AOps.s (Qb h0 h1 h2 h hT hpos hnd ht) hd k
theorem N7{x0:Operand}{v0:AV}{x1:Operand}{v1:AV}{x2:Operand}{v2:AV}{β:Type}{C:β->Prop}{rr vv:β->AV}(h:Spec P f [v0,v1,v2] [] λr' S'=>∃b,C b/\r'=rr b/\S'=[])[hf:∀b,Frz (rr b) (vv b)](k:∀b,C b->AOps ro P nt ops Q rest ⟨AL T dst (vv b),S⟩)(h0:Rd none T x0 v0:=by rfl)(h1:Rd none T x1 v1:=by rfl)(h2:Rd none T x2 v2:=by rfl)(ht:Aa [(x0,v0),(x1,v1),(x2,v2)]=true:=by rfl)(hd:AK dst nt=true:=by rfl):AOps ro P nt ops Q (⟨dst,.call ⟨.value (.func f),#[x0,x1,x2],ats⟩,ty,pos,after,none⟩::rest) ⟨T,S⟩:=D2 (xs:=[(x0,v0),(x1,v1),(x2,v2)]) (nw:=λ_=>[]) (wE:=λ_=>[]) h (λb=>.fz) (λ_=>rfl) (λ_=>.nil) .nil rfl .nil (.cons h0 (.cons h1 (.cons h2 .nil))) ht hd k
theorem Qa{x0:Operand}{v0:AV}{x1:Operand}{v1:AV}{x2:Operand}{v2:AV}{x3:Operand}{v3:AV}{g:Option (Nat×Bool)}(h0:Rd c T x0 v0)(h1:Rd c T x1 v1)(h2:Rd c T x2 v2)(h3:Rd c T x3 v3)(h:Spec P f ([v0,v1,v2,v3]) Sin λr' S'=>r'=r/\S'=Sout)(hT:TR r v news)(hpos:Pos S (Sin++BV news) (Sout++news) rS wS)(hnd:CO (rS.map (·.1))=true)(ht:Aa [(x0,v0),(x1,v1),(x2,v2),(x3,v3)]=true):Stp c P ⟨dst,.call ⟨.value (.func f),#[x0,x1,x2,x3],ats⟩,ty,pos,after,g⟩ T S [(x0,v0),(x1,v1),(x2,v2),(x3,v3)] rS v wS:=⟨DL (xs:=[(x0,v0),(x1,v1),(x2,v2),(x3,v3)]) h ht hT hpos.all.1 hpos.all.2.1 hpos.all.2.2.1 (B5 hnd),(.cons h0 (.cons h1 (.cons h2 (.cons h3 .nil)))),hpos.all.2.2.2⟩
theorem Ks{x0:Operand}{v0:AV}{x1:Operand}{v1:AV}{x2:Operand}{v2:AV}{x3:Operand}{v3:AV}(h:Spec P f ([v0,v1,v2,v3]) Sin λr' S'=>r'=r/\S'=Sout)(hT:TR r v news)(k:AOps ro P nt ops Q rest ⟨AL T dst v,AM S wS⟩)(h0:Rd none T x0 v0:=by rfl)(h1:Rd none T x1 v1:=by rfl)(h2:Rd none T x2 v2:=by rfl)(h3:Rd none T x3 v3:=by rfl)(hpos:Pos S (Sin++BV news) (Sout++news) rS wS:=by exact Pos.f)(hnd:CO (rS.map (·.1))=true:=by rfl)(ht:Aa [(x0,v0),(x1,v1),(x2,v2),(x3,v3)]=true:=by rfl)(hd:AK dst nt=true:=by rfl):AOps ro P nt ops Q (⟨dst,.call ⟨.value (.func f),#[x0,x1,x2,x3],ats⟩,ty,pos,after,none⟩::rest) ⟨T,S⟩:=AOps.s (Qa h0 h1 h2 h3 h hT hpos hnd ht) hd k
theorem Qj{x0:Operand}{v0:AV}{x1:Operand}{v1:AV}{x2:Operand}{v2:AV}{x3:Operand}{v3:AV}{β:Type}{C:β->Prop}{rr vv:β->AV}{X p:Nat}{ob:AO}{oo:β->AO}(h:Spec P f [v0,v1,v2,v3] [(X,ob)] λr' S'=>∃b,C b/\r'=rr b/\S'=[(X,oo b)])[hf:∀b,Frz (rr b) (vv b)](k:∀b,C b->AOps ro P nt ops Q rest ⟨AL T dst (vv b),AM S [(p,(X,oo b))]⟩)(hSp:At S p (X,ob):=by exact At.f)(h0:Rd none T x0 v0:=by rfl)(h1:Rd none T x1 v1:=by rfl)(h2:Rd none T x2 v2:=by rfl)(h3:Rd none T x3 v3:=by rfl)(ht:Aa [(x0,v0),(x1,v1),(x2,v2),(x3,v3)]=true:=by rfl)(hd:AK dst nt=true:=by rfl):AOps ro P nt ops Q (⟨dst,.call ⟨.value (.func f),#[x0,x1,x2,x3],ats⟩,ty,pos,after,none⟩::rest) ⟨T,S⟩:=D2 (xs:=[(x0,v0),(x1,v1),(x2,v2),(x3,v3)]) (rS:=[(p,(X,ob))]) (nw:=λ_=>[]) (wE:=λb=>[(p,(X,oo b))]) h (λb=>.fz) (λ_=>rfl) (λ_=>.cons hSp .nil) (by simp) rfl (.cons hSp .nil) (.cons h0 (.cons h1 (.cons h2 (.cons h3 .nil)))) ht hd k
theorem QZ{x0:Operand}{v0:AV}{x1:Operand}{v1:AV}{x2:Operand}{v2:AV}{x3:Operand}{v3:AV}{x4:Operand}{v4:AV}{g:Option (Nat×Bool)}(h0:Rd c T x0 v0)(h1:Rd c T x1 v1)(h2:Rd c T x2 v2)(h3:Rd c T x3 v3)(h4:Rd c T x4 v4)(h:Spec P f ([v0,v1,v2,v3,v4]) Sin λr' S'=>r'=r/\S'=Sout)(hT:TR r v news)(hpos:Pos S (Sin++BV news) (Sout++news) rS wS)(hnd:CO (rS.map (·.1))=true)(ht:Aa [(x0,v0),(x1,v1),(x2,v2),(x3,v3),(x4,v4)]=true):Stp c P ⟨dst,.call ⟨.value (.func f),#[x0,x1,x2,x3,x4],ats⟩,ty,pos,after,g⟩ T S [(x0,v0),(x1,v1),(x2,v2),(x3,v3),(x4,v4)] rS v wS:=⟨DL (xs:=[(x0,v0),(x1,v1),(x2,v2),(x3,v3),(x4,v4)]) h ht hT hpos.all.1 hpos.all.2.1 hpos.all.2.2.1 (B5 hnd),(.cons h0 (.cons h1 (.cons h2 (.cons h3 (.cons h4 .nil))))),hpos.all.2.2.2⟩
theorem Kr{x0:Operand}{v0:AV}{x1:Operand}{v1:AV}{x2:Operand}{v2:AV}{x3:Operand}{v3:AV}{x4:Operand}{v4:AV}(h:Spec P f ([v0,v1,v2,v3,v4]) Sin λr' S'=>r'=r/\S'=Sout)(hT:TR r v news)(k:AOps ro P nt ops Q rest ⟨AL T dst v,AM S wS⟩)(h0:Rd none T x0 v0:=by rfl)(h1:Rd none T x1 v1:=by rfl)(h2:Rd none T x2 v2:=by rfl)(h3:Rd none T x3 v3:=by rfl)(h4:Rd none T x4 v4:=by rfl)(hpos:Pos S (Sin++BV news) (Sout++news) rS wS:=by exact Pos.f)(hnd:CO (rS.map (·.1))=true:=by rfl)(ht:Aa [(x0,v0),(x1,v1),(x2,v2),(x3,v3),(x4,v4)]=true:=by rfl)(hd:AK dst nt=true:=by rfl):AOps ro P nt ops Q (⟨dst,.call ⟨.value (.func f),#[x0,x1,x2,x3,x4],ats⟩,ty,pos,after,none⟩::rest) ⟨T,S⟩:=AOps.s (QZ h0 h1 h2 h3 h4 h hT hpos hnd ht) hd k
theorem MN{x0:Operand}{v0:AV}{x1:Operand}{v1:AV}{x2:Operand}{v2:AV}{x3:Operand}{v3:AV}{x4:Operand}{v4:AV}{β:Type}{C:β->Prop}{rr vv:β->AV}{X p:Nat}{ob:AO}{oo:β->AO}(h:Spec P f [v0,v1,v2,v3,v4] [(X,ob)] λr' S'=>∃b,C b/\r'=rr b/\S'=[(X,oo b)])[hf:∀b,Frz (rr b) (vv b)](k:∀b,C b->AOps ro P nt ops Q rest ⟨AL T dst (vv b),AM S [(p,(X,oo b))]⟩)(hSp:At S p (X,ob):=by exact At.f)(h0:Rd none T x0 v0:=by rfl)(h1:Rd none T x1 v1:=by rfl)(h2:Rd none T x2 v2:=by rfl)(h3:Rd none T x3 v3:=by rfl)(h4:Rd none T x4 v4:=by rfl)(ht:Aa [(x0,v0),(x1,v1),(x2,v2),(x3,v3),(x4,v4)]=true:=by rfl)(hd:AK dst nt=true:=by rfl):AOps ro P nt ops Q (⟨dst,.call ⟨.value (.func f),#[x0,x1,x2,x3,x4],ats⟩,ty,pos,after,none⟩::rest) ⟨T,S⟩:=D2 (xs:=[(x0,v0),(x1,v1),(x2,v2),(x3,v3),(x4,v4)]) (rS:=[(p,(X,ob))]) (nw:=λ_=>[]) (wE:=λb=>[(p,(X,oo b))]) h (λb=>.fz) (λ_=>rfl) (λ_=>.cons hSp .nil) (by simp) rfl (.cons hSp .nil) (.cons h0 (.cons h1 (.cons h2 (.cons h3 (.cons h4 .nil))))) ht hd k
theorem QY{x0:Operand}{v0:AV}{x1:Operand}{v1:AV}{x2:Operand}{v2:AV}{x3:Operand}{v3:AV}{x4:Operand}{v4:AV}{x5:Operand}{v5:AV}{g:Option (Nat×Bool)}(h0:Rd c T x0 v0)(h1:Rd c T x1 v1)(h2:Rd c T x2 v2)(h3:Rd c T x3 v3)(h4:Rd c T x4 v4)(h5:Rd c T x5 v5)(h:Spec P f ([v0,v1,v2,v3,v4,v5]) Sin λr' S'=>r'=r/\S'=Sout)(hT:TR r v news)(hpos:Pos S (Sin++BV news) (Sout++news) rS wS)(hnd:CO (rS.map (·.1))=true)(ht:Aa [(x0,v0),(x1,v1),(x2,v2),(x3,v3),(x4,v4),(x5,v5)]=true):Stp c P ⟨dst,.call ⟨.value (.func f),#[x0,x1,x2,x3,x4,x5],ats⟩,ty,pos,after,g⟩ T S [(x0,v0),(x1,v1),(x2,v2),(x3,v3),(x4,v4),(x5,v5)] rS v wS:=⟨DL (xs:=[(x0,v0),(x1,v1),(x2,v2),(x3,v3),(x4,v4),(x5,v5)]) h ht hT hpos.all.1 hpos.all.2.1 hpos.all.2.2.1 (B5 hnd),(.cons h0 (.cons h1 (.cons h2 (.cons h3 (.cons h4 (.cons h5 .nil)))))),hpos.all.2.2.2⟩
theorem N3{x0:Operand}{v0:AV}{x1:Operand}{v1:AV}{x2:Operand}{v2:AV}{x3:Operand}{v3:AV}{x4:Operand}{v4:AV}{x5:Operand}{v5:AV}(h:Spec P f ([v0,v1,v2,v3,v4,v5]) Sin λr' S'=>r'=r/\S'=Sout)(hT:TR r v news)(k:AOps ro P nt ops Q rest ⟨AL T dst v,AM S wS⟩)(h0:Rd none T x0 v0:=by rfl)(h1:Rd none T x1 v1:=by rfl)(h2:Rd none T x2 v2:=by rfl)(h3:Rd none T x3 v3:=by rfl)(h4:Rd none T x4 v4:=by rfl)(h5:Rd none T x5 v5:=by rfl)(hpos:Pos S (Sin++BV news) (Sout++news) rS wS:=by exact Pos.f)(hnd:CO (rS.map (·.1))=true:=by rfl)(ht:Aa [(x0,v0),(x1,v1),(x2,v2),(x3,v3),(x4,v4),(x5,v5)]=true:=by rfl)(hd:AK dst nt=true:=by rfl):AOps ro P nt ops Q (⟨dst,.call ⟨.value (.func f),#[x0,x1,x2,x3,x4,x5],ats⟩,ty,pos,after,none⟩::rest) ⟨T,S⟩:=AOps.s (QY h0 h1 h2 h3 h4 h5 h hT hpos hnd ht) hd k
end
end
section
variable {ro:Option Nat}
section
variable {P:Program}{nt:Nat}{c:Code}{ops:Array Oper}{rest:List Oper}{Q:Exit->St->Prop}{T:List (Nat×AV)}{S:List AB}{p n X sz:Nat}{t:TypeId}{l:List AV}
theorem MG(d:Nat)(l':List AV)(he:Al l=l')(k:AWP ro P nt c Q ⟨(d,.lst false t sz l')::T,S.set p (X,.used)⟩)(hd:AP T d=some (.sl X 0 n):=by rfl)(hS:At S p (X,.row t sz l):=by exact At.f)(hn:n=l.length:=by first|rfl|assumption|omega|(simp;omega)|simp[*]):AWP ro P nt c Q ⟨T,S⟩:=
 AWP.ice hd hS hn (he▸k)
end
end
section
variable {ro:Option Nat}
open Go.RowKit
section
variable {P:Program}{m0 m:Mem}{N:Nat}{R:Zs}{ex:List Nat}{X sz:Nat}{l:List AV}{t t' te ty:TypeId}{x y:Operand}{pos:String}{after:Array Edge}{g:Option (Nat×Bool)}{dst:Option Tmp}{p:Nat}
theorem OpT.slice_lo{k:IntKind}{off n lo:Nat}{qi:Int}(he:B4 P t=some te)(hsz:tSz P te=some sz)(hq:qi=(lo:Int))(hh:lo<=n):OpT P ⟨dst,.slice t x (some y) none none,ty,pos,after,g⟩ [(x,.sl X off n),(y,.prim (.int k qi))] [(p,(X,.row t' sz l))] (.sl X (off+lo) (n-lo)) []:=
 .pure_ λm a hx hS=>by
  obtain⟨bs,hU,L,h1,h2,_⟩:=hS (p,(X,.row t' sz l)) (by simp);obtain⟨_,hU',A,c,e1,h3⟩:=hx (x,.sl X off n) (by simp);have hy:=(hx (y,.prim (.int k qi)) (by simp)).prim;injection e1 with e1
  simp only at e1 hy;subst hq
  have hcap:n<=c:=by
   rcases h3 L h1 with⟨_,e,_,e'⟩|⟨_,h4,o,e,_⟩
   ·omega
   ·injection e with _ _ e;omega
  have hr:=Cz (P:=P) (w:=m.w) he hsz (A:=A) (len:=n) (cap:=c) (lo:=lo) (hi:=n) (vl:=some (.int k lo)) (vh:=none) (λu hu=>⟨k,by injection hu with hu;exact hu.symm⟩) (by simp) (by simp) (by simp) hh hcap;refine⟨_,by simp only[execOp,Option.map_none,Option.map_some,e1,hy,Sem.run_bind,hr,Result.andThen_ok];rfl,rfl,hU',_,_,rfl,λL' hL'=>?_⟩;rw[h1]at hL';injection hL' with hL';subst hL'
  rcases h3 L h1 with⟨h5,e,e2,e3⟩|⟨h5,h4,o,e,h6⟩
  ·injection e with e4 e5 e6
   subst e4 e6;have:lo=0:=by omega
   subst this;exact .inl ⟨h5,by simp[e3],by omega,by omega⟩
  ·injection e with e4 e5 e6
   subst e4 e6;simp only[Option.map_some];by_cases hc:lo<L.cap-off
   ·refine .inr ⟨h5,by omega,o+lo*sz,?_,λ_=>?_⟩
    ·rw[if_neg (by omega),DH]
     congr 1
     omega
    ·rw[h6 (.inl (by omega)),h2,Nat.add_mul]
   ·have hlo:lo=L.cap-off:=by omega
    refine .inr ⟨h5,by omega,o,by rw[if_pos hlo.symm];congr 1;omega,λh=>?_⟩;rcases h with h|h
    ·omega
    ·have h0:off=0:=by omega
     rw[h6 (.inr h0),h0,show lo=0 by omega]
theorem Good.splice{bs:List Nat}(G:Good m0 m N (((X,.row t sz l),bs)::R) ex){L:Loc}{arr:Array Value}{bs0:List Nat}(hL:m.μ X=some L)(hnil:L.isNil=false)(hbs:bs=L.blk::bs0)(hb:m.w.heap[L.blk]?=some (.cells arr t (0,0)))(harr:arr.size=L.cap*sz)(hl:l.length<=L.cap)(hcap:L.cap<=maxLen)(hsz:L.sz=sz)(hw:∀e∈l,e.width=sz)
  (hv:VCs m l (arr.toList.take (l.length*sz)) bs0) {off:Nat} {ns:List AV} {cs:List Value} (hoff:off+ns.length<=l.length) (hnw:∀e∈ns,e.width=sz) (hn:VCs m ns cs []):
  ∃b1,Good m0 {m with w:=m.w.setRow L.blk (arr.toList.take (off*sz)++cs++arr.toList.drop (off*sz+cs.length)).toArray} N (((X,.row t sz (l.take off++ns++l.drop (off+ns.length))),L.blk::b1)::R) ex/\m.Le {m with w:=m.w.setRow L.blk (arr.toList.take (off*sz)++cs++arr.toList.drop (off*sz+cs.length)).toArray}:=by
 have hcs:cs.length=ns.length*sz:=by rw[VCs.len _ hn,Ba hnw]
 obtain⟨p1,p2,e1,h1,h2⟩:=VCs.take hw hv (k:=off) (by omega);obtain⟨p3,p4,e2,h3,h4⟩:=VCs.take (l:=l.drop off) (λe he=>hw e (List.mem_of_mem_drop he)) h2 (k:=ns.length) (by rw[List.length_drop];omega);rw[List.drop_drop]at h4;have hlen:(l.take off++ns++l.drop (off+ns.length)).length=l.length:=by simp only[List.length_append,List.length_take,List.length_drop];omega
 have hsz0:l.length*sz<=arr.toList.length:=by rw[show arr.toList.length=arr.size from Array.length_toList,harr];exact Nat.mul_le_mul_right _ hl
 have hle1:off*sz+ns.length*sz<=l.length*sz:=by rw[<-Nat.add_mul];exact Nat.mul_le_mul_right _ hoff
 have nd:(p1++p4).Nodup:=by
  have hown:=G.own;rw[A5,hbs,e1,e2]at hown
  have h5:(L.blk::(p1++(p3++p4))).Nodup:=by
   rw[List.append_assoc]at hown;exact(List.nodup_append.1 hown).1
  have h6:=(List.nodup_cons.1 h5).2;obtain⟨h7,h8,h9⟩:=List.nodup_append.1 h6;obtain⟨_,h10,_⟩:=List.nodup_append.1 h8;exact List.nodup_append.2 ⟨h7,h10,λa ha b hb=>h9 a ha b (by simp[hb])⟩
 refine⟨p1++p4,Fz G hL hnil hbs hb (l':=l.take off++ns++l.drop (off+ns.length)) (bs1:=p1++p4) ?_ (by rw[hlen];exact hl) hcap hsz ?_ ?_ ?_ nd _ rfl⟩
 ·simp only[List.size_toArray,List.length_append,List.length_take,List.length_drop,Array.length_toList,harr]at hsz0⊢
  omega
 ·intro e he
  rcases List.mem_append.1 he with he|he
  ·rcases List.mem_append.1 he with he|he
   ·exact hw e (List.mem_of_mem_take he)
   ·exact hnw e he
  ·exact hw e (List.mem_of_mem_drop he)
 ·rw[hlen]
  have e3:(arr.toList.take (off*sz)++cs++arr.toList.drop (off*sz+cs.length)).take (l.length*sz)=(arr.toList.take (l.length*sz)).take (off*sz)++cs++((arr.toList.take (l.length*sz)).drop (off*sz)).drop (ns.length*sz):=by
   rw[List.take_append,List.take_of_length_le (by simp only[List.length_append,List.length_take];omega)]
   congr 1
   ·rw[List.take_take,Nat.min_eq_left (by omega)]
   ·rw[List.drop_drop,hcs,List.drop_take]
    congr 1
    simp only[List.length_append,List.length_take];omega
  rw[e3];have:=(h1.append hn).append h4;simpa using this
 ·intro b hb
  rw[e1,e2];rcases List.mem_append.1 hb with h|h<;>simp[h]
theorem OpT.clear{off n:Nat}{zl:List Value}{ag:Bool}(he:B4 P t=some te)(hz:tZ P te=some zl)(hsz:tSz P te=some sz)(hag:ag=true\/zl.length=1)(hzs:zl.length=sz)(hn:off+n<=l.length):
  OpT P ⟨dst,.call ⟨.builtin .clear,#[x],#[t]⟩,ty,pos,after,g⟩ [(x,.sl X off n)] [(p,(X,.row te sz l))] (.tup []) [(p,(X,.row te sz (l.take off++List.replicate n (zAV zl ag)++l.drop (off+n))))]:=by
 intro nt m0 T S a w hx hS hd hr;obtain⟨i,zv,hi,hzv,hzl,ho⟩:=F7 hz;obtain⟨m,N,Z,rfl,h2,h3,h4⟩:=hr;have h2':Z.map (·.1)=S:=h2;have hxa:VV m (.sl X off n) (a.eval x) []:=h4.ev (hx (x,.sl X off n) (by simp));have hSp:=hS (p,(X,.row te sz l)) (by simp);rw[<-h2',List.getElem?_map]at hSp;cases hz':Z[p]? with
 |none=>rw[hz']at hSp;cases hSp
 |some z=>
  rw[hz']at hSp;simp only[Option.map_some,Option.some.injEq]at hSp;obtain⟨z1,bs⟩:=z;simp only at hSp;subst hSp;obtain⟨R,hp1,hp2⟩:=BJ hz';have G:=h3.perm hp1;have hO:=G.obj _ (List.mem_cons_self ..);obtain⟨hU,L,hL,hLs,hO⟩:=hO;obtain⟨_,hU',A,q,e1,hs⟩:=hxa;injection e1 with e1
  have hexec:∀w,(execOp a.eval ⟨dst,.call ⟨.builtin .clear,#[x],#[t]⟩,ty,pos,after,g⟩).run P w=((Builtin.clear_ #[t] ty #[a.eval x]:Sem Value)>>=λv=>pure (.value v)).run P w:=λw=>by rw[A8];simp[builtin,Sem.run_bind]
  have htup:VV m (.tup []) (.tuple #[]) []:=⟨#[],rfl,rfl,rfl⟩;by_cases hn0:n=0
  ·subst hn0
   have hnoop:(Builtin.clear_ #[t] ty #[a.eval x]).run P m.w= .ok (.tuple #[]) m.w:=by
    rw[e1];cases A<;>simp[Builtin.clear_,run_underlying (A9 he)]
   unfold Oper.wp;rw[hexec,Sem.run_bind,hnoop];simp only[List.replicate_zero,List.append_nil,Nat.add_zero,List.take_append_drop];refine⟨m,N,Z,rfl,?_,h3,h4.put hd htup⟩
   have:S.set p (X,.row te sz l)=S:=by
    have:=hS (p,(X,.row te sz l)) (by simp);obtain⟨h5,h6⟩:=List.getElem?_eq_some_iff.1 this;have h7:=List.set_getElem_self h5;rw[h6]at h7;exact h7
   show Z.map (·.1)=AM S [(p,(X,.row te sz l))]
   rw[AM,AM,this,h2']
  ·rcases hO with⟨_,rfl,_⟩|⟨hnil,arr,bs0,rfl,hb,harr,hlc,hcap,hw,hv⟩
   ·simp at hn;omega
   ·rcases hs L hL with⟨h5,_⟩|⟨_,h5,o,h6,h7⟩
    ·rw[hnil]at h5;cases h5
    ·have ho':=h7 (.inl (by omega))
     have hzw:(zAV zl ag).width=sz:=by rw[<-VC.len _ (Fc m ho hag),hzs]
     obtain⟨b1,G',hle⟩:=G.splice hL hnil rfl hb harr hlc hcap hLs hw hv (off:=off) (ns:=List.replicate n (zAV zl ag)) (cs:=(List.replicate n zl).flatten) (by simpa using hn) (λe he=>by rw[List.eq_of_mem_replicate he,hzw]) (DN m (Fc m ho hag) n)
     have hcl:(Builtin.zeroCells zv.cells n).toList=(List.replicate n zl).flatten:=by
      rw[Builtin.zeroCells,FG,hzl]
     have hfl:((List.replicate n zl).flatten).length=n*sz:=by simp[hzs]
     have hst:=run_storeCells_at P L.blk o te (List.replicate n zl).flatten 0 arr m.w hb (by
      rw[hfl,harr,ho',hLs,Nat.add_zero,<-Nat.add_mul];exact Nat.mul_le_mul_right _ (by omega)) (λu hu=>by
      obtain⟨l',hl',hu'⟩:=List.mem_flatten.1 hu;rw[List.eq_of_mem_replicate hl']at hu';exact ho u hu')
     simp only[Nat.add_zero]at hst;have hzero:∀w,(zeroValue te).run P w= .ok zv w:=λw=>by simp[zeroValue,typeInfo,Sem.run,program,hi,hzv]
     have hrun:(Builtin.clear_ #[t] ty #[a.eval x]).run P m.w= .ok (.tuple #[]) (m.w.setRow L.blk (arr.toList.take o++(List.replicate n zl).flatten++arr.toList.drop (o+(List.replicate n zl).flatten.length)).toArray):=by
      rw[e1,h6];obtain⟨n',rfl⟩:∃n',n=n'+1:=⟨n-1,by omega⟩;simp[Builtin.clear_,run_underlying (A9 he),hzero,hcl,hst]
     unfold Oper.wp;rw[hexec,Sem.run_bind,hrun,ho',hLs];rw[List.length_replicate]at G';refine⟨_,N,Z.set p ((X,.row te sz (l.take off++List.replicate n (zAV zl ag)++l.drop (off+n))),L.blk::b1),rfl,?_,G'.perm (hp2 _).symm,(h4.mono hle).put hd (VV.mono hle (by simp) htup)⟩;rw[List.map_set,h2'];rfl
theorem Hj(m:Mem):m.Le {m with w:=m.w.drew}:=⟨λ_ h=>h,λ_ _ _ h=>h,λ_ h=>⟨h,rfl⟩⟩
theorem Good.drew{Z:Zs}(G:Good m0 m N Z ex):Good m0 {m with w:=m.w.drew} N Z ex:=
 ⟨λz hz=>ORel.mono (Hj m) (λhg hu=>by have:=G.obj z hz;rw[hg]at this;exact this.2 hu) (λL h=>h) (λ_ _=>rfl) (G.obj z hz),G.own,G.blk,G.frz,G.keys,G.keyN,G.usedN,G.le.trans (Hj m),G.os,G.tape,G.output,G.size⟩
theorem JF{tx:TypeId}{kk:IntKind}{i:TypeInfo}{z:Value}(w:World)(ht:P.underlying t=some (.slice te))(hk:P.underlying tx=some (.int kk))(hi:P.info? te=some i)(hz:i.zero=some z)(hzs:z.cells.size=i.size)(base:Option Addr)(sLen sCap:Nat)(olds:List Value)
  (hold:(Builtin.firstCells i.size sLen (.slice base sLen sCap)).run P w.drew= .ok olds.toArray w.drew) (k2:IntKind) (n:Nat) (hn63:(n:Int)<=9223372036854775807) (hb:n*i.bytes<=281474976710656) (hn:n*i.size≠0)
  (hg:sCap<sLen+n) (h63:((sLen+n:Nat):Int)<=9223372036854775807) (hfit:Builtin.nextslicecap (sLen+n) sCap*i.bytes<=281474976710656):
  (Builtin.append_ #[t,tx] ty #[.slice base sLen sCap,.int k2 (n:Int)]).run P w=
   .ok (.slice (some ⟨w.heap.size,0,none⟩) (sLen+n) (grownCap w (sLen+n) sCap te))
    (w.drew.alloc (.cells ((olds.toArray++Builtin.zeroCells z.cells n)++Builtin.zeroCells z.cells (grownCap w (sLen+n) sCap te-(sLen+n))) te)):=by
 have hng:¬(sLen+n<=sCap):=by omega
 have h63':¬(9223372036854775807<((sLen:Int)+(n:Int))):=by omega
 have h48':¬(281474976710656<Builtin.nextslicecap (sLen+n) sCap*i.bytes):=by omega
 have hw:IntKind.i64.wrap (n:Int)=n:=DM (by omega) hn63;have h0:¬((n:Int)<0):=by omega
 have hbi:¬(281474976710656<(n:Int)*(i.bytes:Int)):=by
  have:((n*i.bytes:Nat):Int)<=281474976710656:=by omega
  rw[Int.natCast_mul]at this;omega
 have hn':¬(n=0\/i.size=0):=by simpa[Nat.mul_eq_zero]using hn
 simp[Builtin.append_,run_underlying ht,run_underlying hk,sizeOf,typeInfo,zeroValue,hi,hz,asInt,asIntOf,hw,h0,hbi,hng,h63',h48',Question.forced,hold,newRow,grownCap,hn'];exact λh=>absurd h hn
def Qr(P:Program)(t:TypeId):Bool:=match P.underlying t with
 |some (.int _)=>true
 |_=>false
theorem ON{t:TypeId}(h:Qr P t=true):∃k,P.underlying t=some (.int k):=by
 unfold Qr at h;split at h
 ·rename_i k hk;exact⟨k,hk⟩
 ·cases h
theorem Good.less{o o':AO}{bs bs':List Nat}(G:Good m0 m N (((X,o),bs)::R) ex)(h:ORel m X o' bs')(hs:bs'.Sublist bs):Good m0 m N (((X,o'),bs')::R) ex:=by
 have hso:(Zs.own (((X,o'),bs')::R)++ex).Sublist (Zs.own (((X,o),bs)::R)++ex):=by
  simp only[A5];exact(hs.append (.refl _)).append (.refl _)
 refine⟨λz hz=>?_,G.own.sublist hso,λb hb=>G.blk b (hso.subset hb),G.frz,G.keys,G.keyN,G.usedN,G.le,G.os,G.tape,G.output,G.size⟩;rcases List.mem_cons.1 hz with rfl|hz
 ·exact h
 ·exact G.obj z (List.mem_cons_of_mem _ hz)
theorem St.shrink{nt:Nat}{st:St}(n:Nat)(hS:At st.S p (X,.row t sz l)):Da nt st λst'=>st'=⟨st.T,st.S.set p (X,.row t sz (l.take n))⟩:=by
 rintro m0 a w ⟨m,N,Z,rfl,h2,h3,h4⟩;obtain⟨bs,hz⟩:=hS.z h2;obtain⟨R,hp1,hp2⟩:=BJ hz;have G:=h3.perm hp1;have hO:ORel m X (.row t sz l) bs:=G.obj _ (List.mem_cons_self ..);obtain⟨hU,L,hL,hLs,hO⟩:=hO
 obtain⟨bs',hs,ho⟩:∃bs',bs'.Sublist bs/\ORel m X (.row t sz (l.take n)) bs':=by
  rcases hO with⟨h1,rfl,rfl⟩|⟨h1,arr,b0,rfl,e1,e2,e3,e4,e5,e6⟩
  ·exact⟨[],.refl _,hU,L,hL,hLs,.inl ⟨h1,by simp,rfl⟩⟩
  ·obtain⟨p1,p2,e7,k1,k2⟩:=VCs.take e5 e6 (k:=min n l.length) (Nat.min_le_right _ _)
   have e8:l.take (min n l.length)=l.take n:=by rw[List.take_eq_take_iff];omega
   rw[e8]at k1;refine⟨L.blk::p1,by rw[e7];exact .cons_cons _ (List.sublist_append_left _ _),hU,L,hL,hLs,.inr ⟨h1,arr,p1,rfl,e1,e2,Nat.le_trans (by rw[List.length_take];exact Nat.min_le_right _ _) e3,e4,λe he=>e5 e (List.mem_of_mem_take he),?_⟩⟩;rw[List.take_take,Nat.min_eq_left (Nat.mul_le_mul_right _ (Nat.min_le_right _ _))]at k1;rw[List.length_take];exact k1
 exact⟨⟨st.T,st.S.set p (X,.row t sz (l.take n))⟩,⟨m,N,Z.set p ((X,.row t sz (l.take n)),bs'),rfl,by rw[List.map_set,h2],(G.less ho hs).perm (hp2 _).symm,h4⟩,rfl⟩
end
section
variable {P:Program}{nt:Nat}{c:Code}{ops:Array Oper}{rest:List Oper}{Q:Exit->St->Prop}{T:List (Nat×AV)}{S:List AB}{p n X sz off by_:Nat}{t te tx ty:TypeId}{l:List AV}{x y:Operand}{dst:Option Tmp}{pos:String}{after:Array Edge}{k:IntKind}{q:Int}{t':TypeId}
theorem AWP.shrink(n:Nat)(kk:AWP ro P nt c Q ⟨T,S.set p (X,.row t sz (l.take n))⟩)(hS:At S p (X,.row t sz l):=by exact At.f):AWP ro P nt c Q ⟨T,S⟩:=.ghost (St.shrink (st:=⟨T,S⟩) n hS) λst' e=>by subst e;exact kk
theorem W.slice_lo{c:Option (List Bool)}{g:Option (Nat×Bool)}{lo:Nat}{qi:Int}[TEl P t te][TSize P te sz](hx:Rd c T x (.sl X off n))(hy:Rd c T y (.prim (.int k qi)))(hSp:At S p (X,.row t' sz l))(hq:qi=(lo:Int))(hh:lo<=n):Stp c P ⟨dst,.slice t x (some y) none none,ty,pos,after,g⟩ T S [(x,.sl X off n),(y,.prim (.int k qi))] [(p,(X,.row t' sz l))] (.sl X (off+lo) (n-lo)) []:=⟨.slice_lo TEl.h TSize.h hq hh,.cons hx (.cons hy .nil),.cons hSp .nil⟩
theorem W.clear{c:Option (List Bool)}{g:Option (Nat×Bool)}{zl:List Value}{ag:Bool}[TEl P t te][TZe P te zl][TSize P te sz][TAg P te ag](hx:Rd c T x (.sl X off n))(hSp:At S p (X,.row te sz l))(hag:ag=true\/zl.length=1)(hzs:zl.length=sz)(hn:off+n<=l.length):Stp c P ⟨dst,.call ⟨.builtin .clear,#[x],#[t]⟩,ty,pos,after,g⟩ T S [(x,.sl X off n)] [(p,(X,.row te sz l))] (.tup []) [(p,(X,.row te sz (l.take off++List.replicate n (zAV zl ag)++l.drop (off+n))))]:=⟨.clear TEl.h TZe.h TSize.h hag hzs hn,.cons hx .nil,.cons hSp .nil⟩
end
end
section
variable {ro:Option Nat}
section
variable {P:Program}{nt:Nat}{c d:Code}{Q:Exit->St->Prop}{T:List (Nat×AV)}{S:List AB}{p q n X Y sz sz2:Nat}{t t2:TypeId}{l l2 l2':List AV}{st:St}
end
inductive NilB(t:TypeId)(sz:Nat):AV->AV->Prop
 |nil:NilB t sz (.prim (.slice none 0 0)) (.lst false t sz [])
theorem jn{β:Type}{R:β->Prop}{inv:β->St}{st:St}(b:β)(hR:R b)(h0:st.Le (inv b):=by exact⟨by exact Lk.f,by exact Sub.f⟩):Exit.normal=Exit.normal/\∃b,R b/\st.Le (inv b):=⟨rfl,b,hR,h0⟩
theorem BG{P:Program}{nt:Nat}{c d:Code}{Q Q2:Exit->St->Prop}{st:St}{β:Type}(R:β->Prop)(inv:β->St)(h1:AWP ro P nt c (λe st'=>e= .normal/\∃b,R b/\st'.Le (inv b)) st)(h2:∀b,R b->AWP ro P nt d Q (inv b)):AWP ro P nt c (andThen (AWP ro P nt d Q) Q2) st:=
 h1.mono λe st' ⟨he,b,hb,hle⟩=>by subst he;exact AWP.weak hle (h2 b hb)
end
section
variable {ro:Option Nat}
theorem Hos.at{a b x y:AV}:{L:List AV}->{k:Nat}->L[k]?=some x->Ho a b x y->Hos a b L (L.set k y)
 |[],k,h,_=>by simp at h
 |z::L,0,h,hh=>by
  have:z=x:=by simpa using h
  subst this;exact .head hh
 |z::L,k+1,h,hh=>.tail (Hos.at (L:=L) (by simpa using h) hh)
section
variable {P:Program}{nt:Nat}{c:Code}{ops:Array Oper}{rest:List Oper}{Q:Exit->St->Prop}{T:List (Nat×AV)}{S:List AB}{p q n X Y sz sz2:Nat}{t t2:TypeId}{l l2 l2':List AV}{st:St}
end
section
variable {P:Program}{dst:Option Tmp}{ty t ty2:TypeId}{pos:String}{after:Array Edge}{g:Option (Nat×Bool)}{T:List (Nat×AV)}{S:List AB}{c:Option (List Bool)}{x y:Operand}{i j:Int}
theorem AZ(k:Int)(h:i-j=k)(hr: -9223372036854775808<=k/\k<=9223372036854775807)(hx:Rd c T x (.prim (.int .i64 i)))(hy:Rd c T y (.prim (.int .i64 j))):Stp c P ⟨dst,.binOp .sub t x y ty2,ty,pos,after,g⟩ T S [(x,.prim (.int .i64 i)),(y,.prim (.int .i64 j))] [] (.prim (.int .i64 k)) []:=h▸W.sub hx hy (h▸hr)
theorem Ap(k:Int)(h:i+j=k)(hr: -9223372036854775808<=k/\k<=9223372036854775807)(hx:Rd c T x (.prim (.int .i64 i)))(hy:Rd c T y (.prim (.int .i64 j))):Stp c P ⟨dst,.binOp .add t x y ty2,ty,pos,after,g⟩ T S [(x,.prim (.int .i64 i)),(y,.prim (.int .i64 j))] [] (.prim (.int .i64 k)) []:=h▸W.add hx hy (h▸hr)
end
section
variable {P:Program}{dst:Option Tmp}{ty t ty2:TypeId}{pos:String}{after:Array Edge}{g:Option (Nat×Bool)}{T:List (Nat×AV)}{S:List AB}{c:Option (List Bool)}{x y:Operand}{a b:Bool}
end
end
section
section
variable {P:Program}{nt:Nat}{ops:Array Oper}{Q:Exit->St->Prop}{rest:List Oper}{T:List (Nat×AV)}{S:List AB}{op:Op}{ty:TypeId}{pos:String}{after:Array Edge}{dst:Option Tmp}{l:List Oper}{acc:List Eff}
abbrev noA:AV:=.opt false (.prim (.bool false))
theorem RGo.goNU{g:Nat}{b b':Bool}{t:Nat}(k:RGo P nt ops l Q rest (acc++[⟨⟨dst,op,ty,pos,after,some (g,b)⟩,[t],[],noA,[]⟩]) ⟨AL T dst noA,S⟩)(ht:(ops[g]?).bind (·.dst)=some t:=by rfl)(hv:AP T t=some (.prim (.bool b')):=by rfl)(hb:b'= !b:=by first|rfl|assumption|(simp only[Bool.not_true,Bool.not_false];assumption))(hd:AK dst nt=true:=by rfl):RGo P nt ops l Q (⟨dst,op,ty,pos,after,some (g,b)⟩::rest) acc ⟨T,S⟩:=by
 have e:(b'==b)=false:=by rw[hb];cases b<;>rfl
 refine RGo.step_ (λr=>?_) k;have:=Run.stepQ (P:=P) (nt:=nt) (ops:=ops) (o:=⟨dst,op,ty,pos,after,some (g,b)⟩) (st:=⟨T,S⟩) (xs:=[]) (rS:=[]) (v:=.prim (.bool false)) (cs:=[]) rfl ht hv rfl (λh=>absurd (h (b'==b) (by simp)) (by rw[e];simp)) .nil .nil hd rfl (by rw[e];exact r);rw[e]at this;exact this
theorem RGo.goNV{g:Nat}{b b':Bool}{t:Nat}(k:RGo P nt ops l Q rest (acc++[⟨⟨dst,op,ty,pos,after,some (g,b)⟩,[t],[],.opt false (.opt (b'==b) (.prim (.bool false))),[]⟩]) ⟨AL T dst (.opt false (.opt (b'==b) (.prim (.bool false)))),S⟩)(ht:(ops[g]?).bind (·.dst)=some t:=by rfl)(hv:AP T t=some (.opt false (.prim (.bool b'))):=by rfl)(hd:AK dst nt=true:=by rfl):RGo P nt ops l Q (⟨dst,op,ty,pos,after,some (g,b)⟩::rest) acc ⟨T,S⟩:=by
 refine RGo.step_ (λr=>?_) k;exact Run.stepQ (P:=P) (nt:=nt) (ops:=ops) (o:=⟨dst,op,ty,pos,after,some (g,b)⟩) (st:=⟨T,S⟩) (xs:=[]) (rS:=[]) (v:=.prim (.bool false)) (cs:=[false]) rfl ht hv rfl (λh=>absurd (h false (by simp)) (by simp)) .nil .nil hd rfl r
end
end
section
section
variable {P:Program}{dst:Option Tmp}{ty t ty2:TypeId}{pos:String}{after:Array Edge}{g:Option (Nat×Bool)}{T:List (Nat×AV)}{S:List AB}{c:Option (List Bool)}{x y:Operand}
theorem OpT.shr{k k':IntKind}{i j:Int}{n:Nat}(hj:j=(n:Int))(hn:n<=k.bits):OpT P ⟨dst,.binOp .shr t x y ty2,ty,pos,after,g⟩ [(x,.prim (.int k i)),(y,.prim (.int k' j))] [] (.prim (.int k (i.fdiv (2^n)))) []:=
 BU rfl (λw=>by
  subst hj;have h:¬((n:Int)<0):=by omega
  simp[binOp,Op.shift,h,Sem.run_pure,Nat.min_eq_left hn]) (.inl ⟨by simp,by simp⟩)
theorem OpT.conv{k k' k0:IntKind}{i:Int}{t2:TypeId}(h1:P.underlying t=some (.int k0))(h2:P.underlying t2=some (.int k'))(hw:k'.wrap i=i):OpT P ⟨dst,.convert t t2 x,ty,pos,after,g⟩ [(x,.prim (.int k i))] [] (.prim (.int k' i)) []:=
 .pure_ λm a hx _=>by
  have e1:=(hx (x,.prim (.int k i)) (by simp)).prim;refine⟨.int k' i,?_,A3 _ rfl⟩;simp only at e1;simp[execOp,e1,convert,run_underlying h1,run_underlying h2,Conv.intToInt,hw,Sem.run_bind,Sem.run_pure,Result.andThen_ok]
end
end
section
section
variable {P:Program}{dst:Option Tmp}{ty t ty2:TypeId}{pos:String}{after:Array Edge}{g:Option (Nat×Bool)}{T:List (Nat×AV)}{S:List AB}{c:Option (List Bool)}{x y:Operand}
theorem VCs.prims{m:Mem}:{us:List Value}->{c:List Value}->{bs:List Nat}->VCs m (us.map .prim) c bs->c=us/\bs=[]
 |[],_,_,⟨h,k⟩=>⟨h,k⟩
 |u::us,_,_,⟨c1,c2,b1,b2,e1,e2,⟨⟨h1,_⟩,h2⟩,h3⟩=>by
  obtain⟨r1,r2⟩:=VCs.prims h3;rw[e1,e2,h1,h2,r1,r2];exact⟨rfl,rfl⟩
theorem VV.aggP{m:Mem}{us:List Value}{l:List AV}{v:Value}(hl:l=us.map .prim)(h:VV m (.agg l) v []):v= .agg us.toArray:=by
 subst hl;obtain⟨cells,e,h⟩:=(show∃cells,v= .agg cells/\VCs m (us.map .prim) cells.toList []from h);rw[e]
 congr 1
 exact Array.toList_inj.1 (by simpa using h.prims.1)
theorem OpT.eqP{us vs:List Value}{l1 l2:List AV}{r:Bool}(h1:l1=us.map .prim)(h2:l2=vs.map .prim)(hg:P.eqGuardType P.depth t=false)(h:∀w,(binOp .eql t (.agg us.toArray) (.agg vs.toArray)).run P w= .ok (.bool r) w):OpT P ⟨dst,.binOp .eql t x y ty2,ty,pos,after,g⟩ [(x,.agg l1),(y,.agg l2)] [] (.prim (.bool r)) []:=
 .pure_ λm a hx _=>by
  have h1:=(hx (x,.agg l1) (by simp)).aggP h1;have h2:=(hx (y,.agg l2) (by simp)).aggP h2;refine⟨.bool r,?_,A3 _ rfl⟩;simp only at h1 h2;simp[execOp,h1,h2,Sem.run_bind,Result.andThen_ok,run_eqGuard_agg _ _ _ _ _ _ _ hg,h]
theorem OpT.neP{us vs:List Value}{l1 l2:List AV}{r:Bool}(h1:l1=us.map .prim)(h2:l2=vs.map .prim)(hg:P.eqGuardType P.depth t=false)(h:∀w,(binOp .neq t (.agg us.toArray) (.agg vs.toArray)).run P w= .ok (.bool r) w):OpT P ⟨dst,.binOp .neq t x y ty2,ty,pos,after,g⟩ [(x,.agg l1),(y,.agg l2)] [] (.prim (.bool r)) []:=
 .pure_ λm a hx _=>by
  have h1:=(hx (x,.agg l1) (by simp)).aggP h1;have h2:=(hx (y,.agg l2) (by simp)).aggP h2;refine⟨.bool r,?_,A3 _ rfl⟩;simp only at h1 h2;simp[execOp,h1,h2,Sem.run_bind,Result.andThen_ok,run_eqGuard_agg _ _ _ _ _ _ _ hg,h]
theorem W.eqP(us vs:List Value){l1 l2:List AV}{r:Bool}(hg:P.eqGuardType P.depth t=false)(h:∀w,(binOp .eql t (.agg us.toArray) (.agg vs.toArray)).run P w= .ok (.bool r) w)(hx:Rd c T x (.agg l1))(hy:Rd c T y (.agg l2))(h1:l1=us.map .prim:=by rfl)(h2:l2=vs.map .prim:=by rfl):
  Stp c P ⟨dst,.binOp .eql t x y ty2,ty,pos,after,g⟩ T S [(x,.agg l1),(y,.agg l2)] [] (.prim (.bool r)) []:=⟨.eqP h1 h2 hg h,.cons hx (.cons hy .nil),.nil⟩
theorem W.neP(us vs:List Value){l1 l2:List AV}{r:Bool}(hg:P.eqGuardType P.depth t=false)(h:∀w,(binOp .neq t (.agg us.toArray) (.agg vs.toArray)).run P w= .ok (.bool r) w)(hx:Rd c T x (.agg l1))(hy:Rd c T y (.agg l2))(h1:l1=us.map .prim:=by rfl)(h2:l2=vs.map .prim:=by rfl):
  Stp c P ⟨dst,.binOp .neq t x y ty2,ty,pos,after,g⟩ T S [(x,.agg l1),(y,.agg l2)] [] (.prim (.bool r)) []:=⟨.neP h1 h2 hg h,.cons hx (.cons hy .nil),.nil⟩
end
def Sc(P:Program)(t:TypeId):Bool:=match(P.fieldsOf t).toList with
 |[f1,f2,f3]=>f1.name != "_" &&f2.name != "_" &&f3.name != "_" &&f1.offset==0&&f2.offset==1&&f3.offset==2&&(match P.underlying f1.type,P.underlying f2.type,P.underlying f3.type with|some .string,some (.int _),some (.int _)=>true|_,_,_=>false)
 |_=>false
theorem Dr{P:Program}{t:TypeId}{k:IntKind}{xs:Array Value}{off:Nat}{v:Value}(ht:P.underlying t=some (.int k))(hx:xs[off]?=some v)(w:World):(part t xs off).run P w= .ok v w:=by
 simp[part,isAgg,run_underlying ht,hx,Sem.run_bind,Sem.run_pure,Result.andThen_ok]
theorem Mf{P:Program}{t:TypeId}{xs:Array Value}{off:Nat}{v:Value}(ht:P.underlying t=some .string)(hx:xs[off]?=some v)(w:World):(part t xs off).run P w= .ok v w:=by
 simp[part,isAgg,run_underlying ht,hx,Sem.run_bind,Sem.run_pure,Result.andThen_ok]
theorem QC{P:Program}{t:TypeId}(h1:P.underlying t=some (.struct (P.fieldsOf t)))(h2:P.stoodInHeld t=false)(h:Sc P t=true)(s s':ByteArray)(a b c d:Int)(w:World):
  (Op.equalIn 10000 t (.agg #[.string s,.int .i64 a,.int .i64 b]) (.agg #[.string s',.int .i64 c,.int .i64 d])).run P w= .ok (decide (s.toList=s'.toList)&&decide (a=c)&&decide (b=d)) w:=by
 rw[show(10000:Nat)=9999+1 from rfl,run_equalIn_agg w 9999 t _ _ h1 h2];unfold Sc at h;split at h
 ·rename_i f1 f2 f3 hf
  simp only[Bool.and_eq_true,bne_iff_ne,ne_eq,beq_iff_eq]at h;obtain⟨⟨⟨⟨⟨⟨n1,n2⟩,n3⟩,o1⟩,o2⟩,o3⟩,hu⟩:=h;split at hu
  ·rename_i k2 k3 u1 u2 u3
   have p1:∀(x:ByteArray) (y z:Int),(part f1.type #[.string x,.int .i64 y,.int .i64 z] f1.offset).run P w= .ok (.string x) w:=λx y z=>Mf u1 (by rw[o1];rfl) w
   have p2:∀(x:ByteArray) (y z:Int),(part f2.type #[.string x,.int .i64 y,.int .i64 z] f2.offset).run P w= .ok (.int .i64 y) w:=λx y z=>Dr u2 (by rw[o2];rfl) w
   have p3:∀(x:ByteArray) (y z:Int),(part f3.type #[.string x,.int .i64 y,.int .i64 z] f3.offset).run P w= .ok (.int .i64 z) w:=λx y z=>Dr u3 (by rw[o3];rfl) w
   have q1:∀x y:ByteArray,(Op.equalIn 9999 f1.type (.string x) (.string y)).run P w= .ok (x.toList==y.toList) w:=λx y=>run_equalIn_string (P:=P) w 9998 f1.type x y u1
   have q2:∀a c:Int,(Op.equalIn 9999 f2.type (.int .i64 a) (.int .i64 c)).run P w= .ok (a==c) w:=λa c=>run_equalIn_int (P:=P) w 9998 f2.type .i64 k2 a c u2
   have q3:∀a c:Int,(Op.equalIn 9999 f3.type (.int .i64 a) (.int .i64 c)).run P w= .ok (a==c) w:=λa c=>run_equalIn_int (P:=P) w 9998 f3.type .i64 k3 a c u3
   rw[hf];by_cases e1:s.toList=s'.toList
   ·by_cases e2:a=c
    ·by_cases e3:b=d
     ·simp[Op.eqFields,n1,n2,n3,Sem.run_bind,p1,p2,p3,q1,q2,q3,e1,e2,e3,Sem.run_pure,Sem.run_ite,Result.andThen_ok]
     ·simp[Op.eqFields,n1,n2,n3,Sem.run_bind,p1,p2,p3,q1,q2,q3,e1,e2,e3,Sem.run_pure,Sem.run_ite,Result.andThen_ok]
    ·simp[Op.eqFields,n1,n2,Sem.run_bind,p1,p2,q1,q2,e1,e2,Sem.run_pure,Sem.run_ite,Result.andThen_ok]
   ·simp[Op.eqFields,n1,Sem.run_bind,p1,q1,e1,Sem.run_pure,Sem.run_ite,Result.andThen_ok]
  ·cases hu
 ·cases h
def Qq(P:Program)(t:TypeId):Bool:=match(P.fieldsOf t).toList with
 |[f1,f2]=>f1.name != "_" &&f2.name != "_" &&f1.offset==0&&f2.offset==1&&(match P.underlying f1.type,P.underlying f2.type with|some (.int _),some (.int _)=>true|_,_=>false)
 |_=>false
theorem Dc{P:Program}{t:TypeId}{k:IntKind}{xs:Array Value}{off:Nat}{v:Value}(ht:P.underlying t=some (.int k))(hx:xs[off]?=some v)(w:World):(part t xs off).run P w= .ok v w:=by
 simp[part,isAgg,run_underlying ht,hx,Sem.run_bind,Sem.run_pure,Result.andThen_ok]
theorem Rb{P:Program}{t:TypeId}(h1:P.underlying t=some (.struct (P.fieldsOf t)))(h2:P.stoodInHeld t=false)(h:Qq P t=true)(a b c d:Int)(w:World):(binOp .eql t (.agg #[.int .i64 a,.int .i64 b]) (.agg #[.int .i64 c,.int .i64 d])).run P w= .ok (.bool (decide (a=c)&&decide (b=d))) w:=by
 rw[run_eql_struct,show(10000:Nat)=9999+1 from rfl,run_equalIn_agg w 9999 t _ _ h1 h2];unfold Qq at h;split at h
 ·rename_i f1 f2 hf
  simp only[Bool.and_eq_true,bne_iff_ne,ne_eq,beq_iff_eq]at h;obtain⟨⟨⟨⟨n1,n2⟩,o1⟩,o2⟩,hu⟩:=h;split at hu
  ·rename_i k1 k2 u1 u2
   have p1:∀x y:Int,(part f1.type #[.int .i64 x,.int .i64 y] f1.offset).run P w= .ok (.int .i64 x) w:=λx y=>Dc u1 (by rw[o1];rfl) w
   have p2:∀x y:Int,(part f2.type #[.int .i64 x,.int .i64 y] f2.offset).run P w= .ok (.int .i64 y) w:=λx y=>Dc u2 (by rw[o2];rfl) w
   have q1:∀a c:Int,(Op.equalIn 9999 f1.type (.int .i64 a) (.int .i64 c)).run P w= .ok (a==c) w:=λa c=>run_equalIn_int (P:=P) w 9998 f1.type .i64 k1 a c u1
   have q2:∀a c:Int,(Op.equalIn 9999 f2.type (.int .i64 a) (.int .i64 c)).run P w= .ok (a==c) w:=λa c=>run_equalIn_int (P:=P) w 9998 f2.type .i64 k2 a c u2
   rw[hf];by_cases e1:a=c
   ·by_cases e2:b=d
    ·simp[Op.eqFields,n1,n2,Sem.run_bind,p1,p2,q1,q2,e1,e2,Sem.run_pure,Sem.run_ite,Result.andThen_ok]
    ·simp[Op.eqFields,n1,n2,Sem.run_bind,p1,p2,q1,q2,e1,e2,Sem.run_pure,Sem.run_ite,Result.andThen_ok]
   ·simp[Op.eqFields,n1,Sem.run_bind,p1,q1,e1,Sem.run_pure,Sem.run_ite,Result.andThen_ok]
  ·cases hu
 ·cases h
end
section
open Go.RowKit
def FreeE(e:AV):Prop:=∀m c bs,VC m e c bs->bs=[]
def FreeL(l:List AV):Prop:=∀e∈l,FreeE e
theorem FreeL.vcs{l:List AV}(h:FreeL l){m:Mem}{c:List Value}{bs:List Nat}(k:VCs m l c bs):bs=[]:=by
 induction l generalizing c bs with
 |nil=>exact k.2
 |cons e l ih=>
  simp only[VCs]at k;obtain⟨c1,c2,b1,b2,_,rfl,h1,h2⟩:=k;rw[h e (by simp) _ _ _ h1,ih (λx hx=>h x (by simp[hx])) h2];rfl
theorem FreeL.sub{l l':List AV}(h:FreeL l)(hs:∀e∈l',e∈l):FreeL l':=λe he=>h e (hs e he)
theorem FreeE.agg{us:List AV}(h:FreeL us):FreeE (.agg us):=λm c bs k=>h.vcs (show VCs m us c bs from k)
theorem FreeE.prim(u:Value):FreeE (.prim u):=λm c bs k=>by
 simp only[VC]at k;exact k.2
section
variable {m0 m:Mem}{N:Nat}{X sz:Nat}{t:TypeId}{l:List AV}{R:Zs}{ex:List Nat}
theorem Good.over{bs:List Nat}(G:Good m0 m N (((X,.row t sz l),bs)::R) ex){L:Loc}{arr:Array Value}{bs0:List Nat}(hL:m.μ X=some L)(hnil:L.isNil=false)(hbs:bs=L.blk::bs0)(hb:m.w.heap[L.blk]?=some (.cells arr t (0,0)))(harr:arr.size=L.cap*sz)(hl:l.length<=L.cap)(hcap:L.cap<=maxLen)(hsz:L.sz=sz)(hw:∀e∈l,e.width=sz)
  (hv:VCs m l (arr.toList.take (l.length*sz)) bs0) (hfr:FreeL l) {off:Nat} {ns:List AV} {cs:List Value} (hoff:off<=l.length) (hend:off+ns.length<=L.cap) (hnw:∀e∈ns,e.width=sz) (hn:VCs m ns cs []):
  Good m0 {m with w:=m.w.setRow L.blk (arr.toList.take (off*sz)++cs++arr.toList.drop (off*sz+cs.length)).toArray} N (((X,.row t sz (l.take off++ns++l.drop (off+ns.length))),[L.blk])::R) ex/\m.Le {m with w:=m.w.setRow L.blk (arr.toList.take (off*sz)++cs++arr.toList.drop (off*sz+cs.length)).toArray}:=by
 have hcs:cs.length=ns.length*sz:=by rw[VCs.len _ hn,Ba hnw]
 obtain rfl:=hfr.vcs hv;obtain⟨p1,p2,e1,h1,h2⟩:=VCs.take hw hv (k:=off) hoff;obtain rfl:=(hfr.sub λe he=>List.mem_of_mem_take he).vcs h1;obtain rfl:p2=[]:=by simpa using e1.symm
 have h4:VCs m (l.drop (off+ns.length)) (((arr.toList.take (l.length*sz)).drop (off*sz)).drop (ns.length*sz)) []:=by
  by_cases hk:off+ns.length<=l.length
  ·obtain⟨p3,p4,e2,h3,h4⟩:=VCs.take (l:=l.drop off) (λe he=>hw e (List.mem_of_mem_drop he)) h2 (k:=ns.length) (by rw[List.length_drop];omega)
   rw[List.drop_drop]at h4;have:=(hfr.sub λe he=>List.mem_of_mem_drop he).vcs h4;rw[this]at h4;exact h4
  ·have hz:l.length*sz<=off*sz+ns.length*sz:=by rw[<-Nat.add_mul];exact Nat.mul_le_mul_right _ (by omega)
   rw[List.drop_of_length_le (by omega),List.drop_drop,List.drop_of_length_le (by rw[List.length_take];omega)];exact⟨rfl,rfl⟩
 have hsz0:l.length*sz<=arr.toList.length:=by rw[show arr.toList.length=arr.size from Array.length_toList,harr];exact Nat.mul_le_mul_right _ hl
 have hle1:off*sz+ns.length*sz<=arr.toList.length:=by rw[<-Nat.add_mul,show arr.toList.length=arr.size from Array.length_toList,harr];exact Nat.mul_le_mul_right _ hend
 have hol:off*sz<=l.length*sz:=Nat.mul_le_mul_right _ hoff;have hlen:(l.take off++ns++l.drop (off+ns.length)).length=max l.length (off+ns.length):=by simp only[List.length_append,List.length_take,List.length_drop];omega
 refine Fz G hL hnil hbs hb (l':=l.take off++ns++l.drop (off+ns.length)) (bs1:=[]) ?_ (by rw[hlen];omega) hcap hsz ?_ ?_ (by simp) (by simp) _ rfl
 ·simp only[List.size_toArray,List.length_append,List.length_take,List.length_drop,Array.length_toList,harr]at hsz0 hle1⊢
  omega
 ·intro e he
  rcases List.mem_append.1 he with he|he
  ·rcases List.mem_append.1 he with he|he
   ·exact hw e (List.mem_of_mem_take he)
   ·exact hnw e he
  ·exact hw e (List.mem_of_mem_drop he)
 ·rw[hlen]
  have e3:(arr.toList.take (off*sz)++cs++arr.toList.drop (off*sz+cs.length)).take (max l.length (off+ns.length)*sz)=(arr.toList.take (l.length*sz)).take (off*sz)++cs++((arr.toList.take (l.length*sz)).drop (off*sz)).drop (ns.length*sz):=by
   have hm2:off*sz+ns.length*sz<=max l.length (off+ns.length)*sz:=by rw[<-Nat.add_mul];exact Nat.mul_le_mul_right _ (by omega)
   rw[List.take_append,List.take_of_length_le (by simp only[List.length_append,List.length_take];omega)]
   congr 1
   ·rw[List.take_take,Nat.min_eq_left hol]
   ·rw[List.drop_drop,hcs,List.drop_take]
    simp only[List.length_append,List.length_take];rw[Nat.min_eq_left (by omega),hcs];by_cases hk:off+ns.length<=l.length
    ·rw[Nat.max_eq_left hk]
    ·have hz:l.length*sz<=off*sz+ns.length*sz:=by rw[<-Nat.add_mul];exact Nat.mul_le_mul_right _ (by omega)
     rw[Nat.max_eq_right (by omega),Nat.add_mul,Nat.sub_self,Nat.sub_eq_zero_of_le (by omega)]
  rw[show(arr.toList.take (off*sz)++cs++arr.toList.drop (off*sz+cs.length)).toArray.toList=arr.toList.take (off*sz)++cs++arr.toList.drop (off*sz+cs.length)from rfl,e3];exact(h1.append hn).append h4
theorem H1{Y:Nat}{l2:List AV}{t2:TypeId}{bs2:List Nat}{vy:Value}{i b k:Nat}(hO:ORel m Y (.row t2 sz l2) bs2)(hy:VV m (.sl Y i b) vy [])(hb:0<b)(hfr:FreeL l2)(hi:i+k<=l2.length):∃A2 q2 cs,vy= .slice (some A2) b q2/\VCs m ((l2.drop i).take k) cs []/\cs.length=k*sz/\∀j v,cs[j]?=some v->m.w.cell? (A2.add j)=some v:=by
 obtain⟨hU,L,hL,hLs,hO⟩:=hO;obtain⟨_,hU',A,q,e1,hs⟩:=hy;injection e1 with e1
 subst e1;rcases hs L hL with⟨h5,e2,e3,e4⟩|⟨h5,h6,o,h7,h8⟩
 ·omega
 ·rcases hO with⟨h9,_⟩|⟨hnil,arr,bs',rfl,hb2,harr,hlc,hcap,hw,hv⟩
  ·rw[h5]at h9;cases h9
  ·have ho:=h8 (.inl (by omega))
   injection h7 with h7 h9 h10
   subst h7;obtain⟨p1,p2,e5,h11,h12⟩:=VCs.take hw hv (k:=i) (by omega);obtain⟨p3,p4,e6,h13,h14⟩:=VCs.take (l:=l2.drop i) (λe he=>hw e (List.mem_of_mem_drop he)) h12 (k:=k) (by rw[List.length_drop];omega);have h15:=(hfr.sub λe he=>List.mem_of_mem_drop (List.mem_of_mem_take he)).vcs h13;rw[h15]at h13;have hsz0:l2.length*sz<=arr.toList.length:=by rw[show arr.toList.length=arr.size from Array.length_toList,harr];exact Nat.mul_le_mul_right _ hlc
   have hle:i*sz+k*sz<=l2.length*sz:=by rw[<-Nat.add_mul];exact Nat.mul_le_mul_right _ hi
   refine⟨_,q,_,rfl,h13,?_,λj v hj=>?_⟩
   ·simp only[List.length_take,List.length_drop];omega
   ·rw[DH,ho,hLs]
    rw[List.getElem?_take]at hj;split at hj
    ·rw[List.getElem?_drop,List.getElem?_take]at hj
     split at hj
     ·simp only[World.cell?,hb2]
      rw[<-Array.getElem?_toList];exact hj
     ·cases hj
    ·cases hj
theorem J1{P:Program}{tt te ty:TypeId}{Z:Zs}{p:Nat}{bs:List Nat}{vx:Value}{j a b q2:Nat}(G:Good m0 m N Z [])(hz:Z[p]?=some ((X,.row t sz l),bs))(hx:VV m (.sl X j a) vx [])(ha:0<a)(hj:j<=l.length)(hfr:FreeL l)(he:B4 P tt=some te)(hs:tSz P te=some sz)
  {ns:List AV} {cs:List Value} (hns:∀e∈ns,e.width=sz) (hcs:VCs m ns cs []) (hk:ns.length=min b a) {A2:Addr} (hsrc:∀j v,cs[j]?=some v->m.w.cell? (A2.add j)=some v):
  ∃m' b',(Builtin.copy_ #[tt,tt] ty #[vx,.slice (some A2) b q2]).run P m.w= .ok (goInt ns.length) m'.w/\Good m0 m' N (Z.set p ((X,.row t sz (l.take j++ns++l.drop (j+ns.length))),b')) []/\m.Le m':=by
 obtain⟨R,hp1,hp2⟩:=BJ hz;have G1:=G.perm hp1;have hO:=G1.obj _ (List.mem_cons_self ..);obtain⟨hU,L,hL,hLs,hO⟩:=hO;obtain⟨_,hU',A,q,e1,hsl⟩:=hx;injection e1 with e1
 subst e1;rcases hsl L hL with⟨h5,e2,e3,e4⟩|⟨h5,h6,o,h7,h8⟩
 ·omega
 ·rcases hO with⟨h9,_⟩|⟨hnil,arr,bs',rfl,hb2,harr,hlc,hcap,hw,hv⟩
  ·rw[h5]at h9;cases h9
  ·have ho:=h8 (.inl (by omega))
   injection h7 with h7 h9 h10
   subst h7;have hcl:cs.length=ns.length*sz:=by rw[VCs.len _ hcs,Ba hns]
   have hle:j+ns.length<=L.cap:=by omega
   have hfit:j*sz+cs.length<=arr.size:=by rw[hcl,harr,<-Nat.add_mul];exact Nat.mul_le_mul_right _ hle
   obtain⟨G2,hle2⟩:=Good.over G1 hL h5 rfl hb2 harr hlc hcap hLs hw hv hfr hj hle hns hcs;refine⟨_,[L.blk],?_,G2.perm (hp2 _).symm,hle2⟩;have hl:=run_loadCells_list (P:=P) m.w A2 cs hsrc;have hst:=run_storeCells_at P L.blk (j*sz) t cs 0 arr m.w hb2 (by simpa using hfit) (VCs.ones _ hcs);have hu:=A9 he;unfold tSz at hs;rw[ho,hLs];have hkk:Nat.min b a=ns.length:=hk.symm;cases hq:P.info? te with
   |none=>rw[hq]at hs;cases hs
   |some i=>
    rw[hq]at hs;injection hs with hs
    rw[hcl]at hl;simp[Builtin.copy_,run_underlying hu,Builtin.lenOf,Builtin.firstCells,sizeOf,typeInfo,hq,hs,hkk,hl,hst]
end
section
variable {P:Program}{dst:Option Tmp}{ty t te t2:TypeId}{pos:String}{after:Array Edge}{g:Option (Nat×Bool)}{x y:Operand}{p q r sz X Y Z:Nat}{l l2:List AV}
theorem OpT.copyO{j a i b:Nat}(k:Nat)(he:B4 P t=some te)(hsz:tSz P te=some sz)(ha:0<a)(hb:0<b)(hk:k=min b a)(hj:j<=l.length)(hi:i+k<=l2.length)(hfr:FreeL l)(hfr2:FreeL l2)(hw2:∀e∈l2,e.width=sz)(hpq:p≠q):
  OpT P ⟨dst,.call ⟨.builtin .copy,#[x,y],#[t,t]⟩,ty,pos,after,g⟩ [(x,.sl X j a),(y,.sl Y i b)] [(p,(X,.row te sz l)),(q,(Y,.row te sz l2))] (.prim (.int .i64 k)) [(p,(X,.row te sz (l.take j++(l2.drop i).take k++l.drop (j+k))))]:=by
 intro nt m0 T S ac w hx hS hd hr;obtain⟨m,N,W,rfl,h2,h3,h4⟩:=hr;have h2':W.map (·.1)=S:=h2;have hxa:VV m (.sl X j a) (ac.eval x) []:=h4.ev (hx (x,.sl X j a) (by simp));have hya:VV m (.sl Y i b) (ac.eval y) []:=h4.ev (hx (y,.sl Y i b) (by simp));have hSp:=hS (p,(X,.row te sz l)) (by simp);have hSq:=hS (q,(Y,.row te sz l2)) (by simp);rw[<-h2',List.getElem?_map]at hSp hSq;cases hz:W[p]? with
 |none=>rw[hz]at hSp;cases hSp
 |some z=>
 cases hzq:W[q]? with
 |none=>rw[hzq]at hSq;cases hSq
 |some zq=>
  rw[hz]at hSp;rw[hzq]at hSq;simp only[Option.map_some,Option.some.injEq]at hSp hSq;obtain⟨z1,bs⟩:=z;obtain⟨zq1,bsq⟩:=zq;simp only at hSp hSq;subst hSp hSq;obtain⟨A2,q2,cs,e1,hcs,hcl,hsrc⟩:=H1 (h3.obj _ (List.mem_of_getElem? hzq)) hya hb hfr2 hi;have hkl:((l2.drop i).take k).length=k:=by rw[List.length_take,List.length_drop];omega
  obtain⟨m',b',hrun,G',hle⟩:=J1 (ty:=ty) (q2:=q2) h3 hz hxa ha hj hfr he hsz (ns:=(l2.drop i).take k) (λe he=>hw2 e (List.mem_of_mem_drop (List.mem_of_mem_take he))) hcs (b:=b) (by rw[hkl];exact hk) hsrc;rw[hkl]at hrun G';unfold Oper.wp;rw[A8];simp only[builtin,List.map_toArray,List.map_cons,List.map_nil,e1,Sem.run_bind,hrun,Result.andThen_ok,Sem.run_pure];refine⟨m',N,_,rfl,?_,G',(h4.mono hle).put hd (A3 _)⟩;rw[List.map_set,h2'];rfl
theorem OpT.copyS{j a i b:Nat}(k:Nat)(he:B4 P t=some te)(hsz:tSz P te=some sz)(ha:0<a)(hb:0<b)(hk:k=min b a)(hj:j<=l.length)(hi:i+k<=l.length)(hfr:FreeL l)(hw2:∀e∈l,e.width=sz):
  OpT P ⟨dst,.call ⟨.builtin .copy,#[x,y],#[t,t]⟩,ty,pos,after,g⟩ [(x,.sl X j a),(y,.sl X i b)] [(p,(X,.row te sz l))] (.prim (.int .i64 k)) [(p,(X,.row te sz (l.take j++(l.drop i).take k++l.drop (j+k))))]:=by
 intro nt m0 T S ac w hx hS hd hr;obtain⟨m,N,W,rfl,h2,h3,h4⟩:=hr;have h2':W.map (·.1)=S:=h2;have hxa:VV m (.sl X j a) (ac.eval x) []:=h4.ev (hx (x,.sl X j a) (by simp));have hya:VV m (.sl X i b) (ac.eval y) []:=h4.ev (hx (y,.sl X i b) (by simp));have hSp:=hS (p,(X,.row te sz l)) (by simp);rw[<-h2',List.getElem?_map]at hSp;cases hz:W[p]? with
 |none=>rw[hz]at hSp;cases hSp
 |some z=>
  rw[hz]at hSp;simp only[Option.map_some,Option.some.injEq]at hSp;obtain⟨z1,bs⟩:=z;simp only at hSp;subst hSp;obtain⟨A2,q2,cs,e1,hcs,hcl,hsrc⟩:=H1 (h3.obj _ (List.mem_of_getElem? hz)) hya hb hfr hi;have hkl:((l.drop i).take k).length=k:=by rw[List.length_take,List.length_drop];omega
  obtain⟨m',b',hrun,G',hle⟩:=J1 (ty:=ty) (q2:=q2) h3 hz hxa ha hj hfr he hsz (ns:=(l.drop i).take k) (λe he=>hw2 e (List.mem_of_mem_drop (List.mem_of_mem_take he))) hcs (b:=b) (by rw[hkl];exact hk) hsrc;rw[hkl]at hrun G';unfold Oper.wp;rw[A8];simp only[builtin,List.map_toArray,List.map_cons,List.map_nil,e1,Sem.run_bind,hrun,Result.andThen_ok,Sem.run_pure];refine⟨m',N,_,rfl,?_,G',(h4.mono hle).put hd (A3 _)⟩;rw[List.map_set,h2'];rfl
def Ez(X c:Nat)(u0:Value):AV->Value->Prop:=λv u=>v= .sl X 0 c/\u=u0
def JW(c:Nat)(u0:Value):Prop:=∃A,u0= .slice A c c
theorem Kh{m:Mem}{c:Nat}{u0:Value}{bs:List Nat}{L:Loc}(hc:JW c u0)(h:ORel m Z (.tv (Ez X c u0)) bs)(hL:m.μ X=some L):(L.isNil=true/\c=0)\/(L.isNil=false/\c=L.cap):=by
 obtain⟨_,_,h⟩:=h;obtain⟨A,rfl⟩:=hc;obtain⟨_,_,A',q,e1,hs⟩:=h _ _ ⟨rfl,rfl⟩;injection e1 with e1
 injection e1 with e2 e3 e4
 subst e2 e4;rcases hs L hL with⟨h5,_,_,h6⟩|⟨h5,h6,o,h7,_⟩
 ·exact .inl ⟨h5,h6⟩
 ·injection h7 with _ _ h8
  exact .inr ⟨h5,by omega⟩
theorem OpT.cap{n c:Nat}{u0:Value}(he:B4 P t=some te)(hc:JW c u0):OpT P ⟨dst,.call ⟨.builtin .cap,#[x],#[t]⟩,ty,pos,after,g⟩ [(x,.sl X 0 n)] [(p,(X,.row te sz l)),(q,(Z,.tv (Ez X c u0)))] (.prim (.int .i64 c)) []:=
 .pure_ λm a hx hS=>by
  obtain⟨bs,hO⟩:=hS (p,(X,.row te sz l)) (by simp);obtain⟨bs2,hO2⟩:=hS (q,(Z,.tv (Ez X c u0))) (by simp);obtain⟨hU,L,hL,hLs,_⟩:=hO;have hcl:=Kh hc hO2 hL;obtain⟨_,hU',A,d,e1,hs⟩:=hx (x,.sl X 0 n) (by simp);injection e1 with e1
  simp only at e1
  have hd:d=c:=by
   rcases hs L hL with⟨h5,e2,_,h6⟩|⟨h5,h6,o,h7,_⟩
   ·injection e2 with _ _ e3
    rcases hcl with⟨_,h⟩|⟨h,_⟩
    ·omega
    ·rw[h5]at h;cases h
   ·injection h7 with _ _ h8
    rcases hcl with⟨h,_⟩|⟨_,h⟩
    ·rw[h5]at h;cases h
    ·omega
  subst hd;refine⟨_,?_,A3 (.int .i64 d)⟩;rw[A8];simp[builtin,Builtin.cap_,e1,run_underlying (A9 he),Sem.run_bind,Sem.run_pure,Result.andThen_ok,goInt]
theorem OpT.slice_cap{k:IntKind}{n c hi:Nat}{qi:Int}{u0:Value}(he:B4 P t=some te)(hsz:tSz P te=some sz)(hc:JW c u0)(hq:qi=(hi:Int))(hh:hi<=c):OpT P ⟨dst,.slice t x none (some y) none,ty,pos,after,g⟩ [(x,.sl X 0 n),(y,.prim (.int k qi))] [(p,(X,.row te sz l)),(q,(Z,.tv (Ez X c u0)))] (.sl X 0 hi) []:=
 .pure_ λm a hx hS=>by
  obtain⟨bs,hO⟩:=hS (p,(X,.row te sz l)) (by simp);obtain⟨bs2,hO2⟩:=hS (q,(Z,.tv (Ez X c u0))) (by simp);obtain⟨hU,L,hL,hLs,_⟩:=hO;have hcl:=Kh hc hO2 hL;obtain⟨_,hU',A,d,e1,hs⟩:=hx (x,.sl X 0 n) (by simp);have hy:=(hx (y,.prim (.int k qi)) (by simp)).prim;injection e1 with e1
  simp only at e1 hy;subst hq;rcases hs L hL with⟨h5,e2,_,h6⟩|⟨h5,h6,o,h7,h8⟩
  ·have hc0:c=0:=by
    rcases hcl with⟨_,h⟩|⟨h,_⟩
    ·exact h
    ·rw[h5]at h;cases h
   injection e2 with e2 e3 e4
   subst e2 e4;obtain rfl:hi=0:=by omega
   have hr:=Cz (P:=P) (w:=m.w) he hsz (A:=none) (len:=n) (cap:=0) (lo:=0) (hi:=0) (vl:=none) (vh:=some (.int k 0)) (by simp) (by simp) (λu hu=>⟨k,by injection hu with hu;exact hu.symm⟩) (by simp) (by omega) (by omega);refine⟨_,by simp only[execOp,Option.map_none,Option.map_some,e1,hy,Sem.run_bind,Int.natCast_zero,hr,Result.andThen_ok];rfl,rfl,hU',_,_,rfl,λL' hL'=>?_⟩;rw[hL]at hL';injection hL' with hL';subst hL'
   exact .inl ⟨h5,by simp,rfl,rfl⟩
  ·have hcc:c=L.cap:=by
    rcases hcl with⟨h,_⟩|⟨_,h⟩
    ·rw[h5]at h;cases h
    ·exact h
   injection h7 with e4 e5 e6
   subst e4 e6;have hr:=Cz (P:=P) (w:=m.w) he hsz (A:=some ⟨L.blk,o,none⟩) (len:=n) (cap:=L.cap-0) (lo:=0) (hi:=hi) (vl:=none) (vh:=some (.int k hi)) (by simp) (by simp) (λu hu=>⟨k,by injection hu with hu;exact hu.symm⟩) (by simp) (by omega) (by omega);refine⟨_,by simp only[execOp,Option.map_none,Option.map_some,e1,hy,Sem.run_bind,hr,Result.andThen_ok];rfl,rfl,hU',_,_,rfl,λL' hL'=>?_⟩;rw[hL]at hL';injection hL' with hL';subst hL'
   refine .inr ⟨h5,by omega,o,?_,h8⟩;simp only[Nat.zero_mul,Nat.sub_zero];split
   ·rfl
   ·rw[DH,Nat.add_zero]
end
section
variable {ro:Option Nat}{P:Program}{nt p sz X:Nat}{t:TypeId}{l:List AV}
theorem Ro{st:St}(hS:At st.S p (X,.row t sz l)):Da nt st λst'=>∃Z c u0,JW c u0/\l.length<=c/\st'=⟨st.T,(Z,.tv (Ez X c u0))::st.S⟩:=by
 rintro m0 a w ⟨m,N,W,rfl,h2,h3,h4⟩;have hSp:=hS.get;rw[<-show W.map (·.1)=st.S from h2,List.getElem?_map]at hSp;cases hz:W[p]? with
 |none=>rw[hz]at hSp;cases hSp
 |some z=>
  rw[hz]at hSp;simp only[Option.map_some,Option.some.injEq]at hSp;obtain⟨z1,bs⟩:=z;simp only at hSp;subst hSp;obtain⟨hU,L,hL,hLs,hO⟩:=h3.obj _ (List.mem_of_getElem? hz)
  obtain⟨c,u0,hcv,hlc,hvv⟩:∃c u0,JW c u0/\l.length<=c/\VV m (.sl X 0 c) u0 []:=by
   rcases hO with⟨h5,h6,_⟩|⟨h5,arr,bs',_,_,_,h6,_⟩
   ·refine⟨0,.slice none 0 0,⟨none,rfl⟩,by rw[h6];simp,rfl,hU,_,_,rfl,λL' hL'=>?_⟩
    rw[hL]at hL';injection hL' with hL';subst hL'
    exact .inl ⟨h5,rfl,rfl,rfl⟩
   ·refine⟨L.cap,.slice (some ⟨L.blk,0,none⟩) L.cap L.cap,⟨_,rfl⟩,h6,rfl,hU,_,_,rfl,λL' hL'=>?_⟩
    rw[hL]at hL';injection hL' with hL';subst hL'
    exact .inr ⟨h5,by omega,0,by simp,λ_=>by simp⟩
  obtain⟨G',hle⟩:=h3.note (Ez X c u0) (λv u h=>by rw[h.1,h.2];exact hvv) _ rfl;exact⟨⟨st.T,(N,.tv (Ez X c u0))::st.S⟩,⟨{m with U:=λy=>m.U y\/y=N},N+1,_,rfl,by rw[List.map_cons,show W.map (·.1)=st.S from h2],G',h4.mono hle⟩,N,c,u0,hcv,hlc,rfl⟩
theorem AWP.cap{cd:Code}{Q:Exit->St->Prop}{T:List (Nat×AV)}{S:List AB}(X:Nat)(k:∀Z c u0,JW c u0->l.length<=c->AWP ro P nt cd Q ⟨T,(Z,.tv (Ez X c u0))::S⟩)(hS:At S p (X,.row t sz l):=by exact At.f):AWP ro P nt cd Q ⟨T,S⟩:=.ghost (Ro hS) (by rintro _ ⟨Z,c,u0,h1,h2,rfl⟩;exact k Z c u0 h1 h2)
end
end
section
open Go.RowKit
section
variable {P:Program}{dst:Option Tmp}{ty t te tx:TypeId}{pos:String}{after:Array Edge}{g:Option (Nat×Bool)}{x y:Operand}{p q r sz X Y Z:Nat}{l:List AV}
theorem OpT.appz_grow{kq:IntKind}{qi:Int}{i k c by_:Nat}{u0:Value}{zl:List Value}{ag:Bool}(T:MR P t=some (te,sz,by_))(hz:tZ P te=some zl)(hag:ag=true\/zl.length=1)(hzs:zl.length=sz)(htx:Qr P tx=true)(hq:qi=(k:Int))(h0:0<k)(hb:(i+k)*by_<=140737488355328)(hby:0<by_)
  (hc:JW c u0) (hroom:c<i+k) (hi:i<=l.length) (hfr:FreeL l):
  OpT P ⟨dst,.call ⟨.builtin .append,#[x,y],#[t,tx]⟩,ty,pos,after,g⟩ [(x,.sl X 0 i),(y,.prim (.int kq qi))] [(p,(X,.row te sz l)),(q,(Z,.tv (Ez X c u0))),(r,(Y,.gone))] (.sl Y 0 (i+k)) [(r,(Y,.row te sz (l.take i++List.replicate k (zAV zl ag))))]:=by
 subst hq;obtain⟨inf,z,ht,hti,hiz,h3,h4,hzs',hsz⟩:=Ja T;obtain⟨i',zv,hi',hzv,hzl,ho⟩:=F7 hz;rw[hti]at hi';injection hi' with hi'
 subst hi';rw[hiz]at hzv;injection hzv with hzv
 subst hzv;obtain⟨kk,hk⟩:=ON htx;have hnm:i+k<=140737488355328:=Nat.le_trans (Nat.le_mul_of_pos_right _ hby) hb;intro nt m0 T0 S a w hx hS hd hr;obtain⟨m,N,W,rfl,h2,h5,h6⟩:=hr;have h2':W.map (·.1)=S:=h2;have hxa:VV m (.sl X 0 i) (a.eval x) []:=h6.ev (hx (x,.sl X 0 i) (by simp));have hya:=(h6.ev (hx (y,.prim (.int kq (k:Int))) (by simp))).prim;simp only at hya;have hSp:=hS (p,(X,.row te sz l)) (by simp);have hSq:=hS (q,(Z,.tv (Ez X c u0))) (by simp);have hSr:=hS (r,(Y,.gone)) (by simp);rw[<-h2',List.getElem?_map]at hSp hSq hSr;cases hzp:W[p]? with
 |none=>rw[hzp]at hSp;cases hSp
 |some zp=>
 cases hzq:W[q]? with
 |none=>rw[hzq]at hSq;cases hSq
 |some zq=>
 cases hzr:W[r]? with
 |none=>rw[hzr]at hSr;cases hSr
 |some zr=>
  rw[hzp]at hSp;rw[hzq]at hSq;rw[hzr]at hSr;simp only[Option.map_some,Option.some.injEq]at hSp hSq hSr;obtain⟨zp1,bsp⟩:=zp;obtain⟨zq1,bsq⟩:=zq;obtain⟨zr1,bsr⟩:=zr;simp only at hSp hSq hSr;subst hSp hSq hSr;have hO:=h5.obj _ (List.mem_of_getElem? hzp);obtain⟨hU,L,hL,hLs,hO⟩:=hO;have hcl:=Kh hc (h5.obj _ (List.mem_of_getElem? hzq)) hL;obtain⟨_,hU',A,d,e1,hs⟩:=hxa;injection e1 with e1
  obtain⟨hdc,cs,hcs,hold⟩:d=c/\∃cs,VCs m (l.take i) cs []/\(Builtin.firstCells inf.size i (.slice A i d)).run P m.w.drew= .ok cs.toArray m.w.drew:=by
   rcases hs L hL with⟨h7,e2,_,e3⟩|⟨h7,h8,o,e2,h9⟩
   ·injection e2 with e4 e5 e6
    subst e4 e6 e3;refine⟨?_,[],by simpa using⟨rfl,rfl⟩,by exact run_firstCells_none m.w.drew _ 0 0 0⟩;rcases hcl with⟨_,h⟩|⟨h,_⟩
    ·omega
    ·rw[h7]at h;cases h
   ·injection e2 with e4 e5 e6
    subst e4 e6
    have hcc:c=L.cap:=by
     rcases hcl with⟨h,_⟩|⟨_,h⟩
     ·rw[h7]at h;cases h
     ·exact h
    refine⟨by omega,?_⟩;rcases hO with⟨h10,_⟩|⟨hnil,arr,bs',hbs,hb2,harr,hlc,hcap,hw,hv⟩
    ·rw[h7]at h10;cases h10
    ·obtain⟨p1,p2,e7,h11,h12⟩:=VCs.take hw hv (k:=i) hi
     have h13:=(hfr.sub λe he=>List.mem_of_mem_take he).vcs h11;rw[h13]at h11;have ho:o=0:=by rw[h9 (.inr rfl),Nat.zero_mul]
     subst ho;have hsz0:l.length*sz<=arr.toList.length:=by rw[show arr.toList.length=arr.size from Array.length_toList,harr];exact Nat.mul_le_mul_right _ hlc
     have hle:i*sz<=l.length*sz:=Nat.mul_le_mul_right _ hi;refine⟨_,h11,run_firstCells_some (P:=P) m.w.drew inf.size i _ i _ _ ?_ λj v hj=>?_⟩
     ·rw[h3];simp only[List.length_take];omega
     ·rw[DH,Nat.zero_add]
      rw[List.getElem?_take]at hj;split at hj
      ·rw[List.getElem?_take]at hj
       split at hj
       ·show m.w.cell? _=_
        simp only[World.cell?,hb2];rw[<-Array.getElem?_toList];exact hj
       ·cases hj
      ·cases hj
  subst hdc;have hgc:Builtin.nextslicecap (i+k) d*inf.bytes<=281474976710656:=growslice_fits hroom (by rw[h4];exact hb);have hkb:k*by_<=(i+k)*by_:=Nat.mul_le_mul_right _ (by omega);have hrun:=JF (P:=P) (ty:=ty) m.w ht hk hti hiz (by rw[hzs',h3]) A i d cs hold kq k (by omega) (by rw[h4];omega) (by rw[h3];exact Nat.ne_of_gt (Nat.mul_pos h0 hsz)) hroom (by omega) hgc;have hge:=grownCap_ge m.w (i+k) d te;have hcm:=grownCap_le_maxLen m.w (i+k) d te (by unfold maxLen;omega);obtain⟨G,hG⟩:∃G,grownCap m.w (i+k) d te=G:=⟨_,rfl⟩;rw[hG]at hrun hge hcm;have hzc:∀j,(Builtin.zeroCells z.cells j).toList=(List.replicate j zl).flatten:=λj=>by rw[Builtin.zeroCells,FG,hzl]
  have hwl:∀e∈l.take i,e.width=sz:=λe he=>by
   rcases hO with⟨_,h10,_⟩|⟨_,_,_,_,_,_,_,_,hw,_⟩
   ·rw[h10]at he;simp at he
   ·exact hw e (List.mem_of_mem_take he)
  have hti2:(l.take i).length=i:=by rw[List.length_take];omega
  have hcl2:cs.length=i*sz:=by rw[VCs.len _ hcs,Ba hwl,hti2]
  obtain⟨R,hp1,hp2⟩:=BJ hzr;have hlen:(l.take i++List.replicate k (zAV zl ag)).length=i+k:=by rw[List.length_append,hti2,List.length_replicate]
  obtain⟨G',hle⟩:=JA (t:=te) (sz:=sz) (l:=l.take i++List.replicate k (zAV zl ag)) (arr:=(cs.toArray++Builtin.zeroCells z.cells k)++Builtin.zeroCells z.cells (G-(i+k))) (cap:=G) (h5.perm hp1).drew (by
    simp only[Array.toList_append,hzc,hlen];rw[List.take_left' (by simp[hzs,hcl2,Nat.add_mul])];exact(VCs.mono (Hj m) _ (λ_ _=>rfl) hcs).append (DN _ (Fc _ ho hag) k)) (by
    simp only[Array.size_append,size_zeroCells,hzs',List.size_toArray,hcl2];rw[<-Nat.add_mul,<-Nat.add_mul]
    congr 1
    omega) (by rw[hlen];exact hge) hcm (λe he=>by
    rcases List.mem_append.1 he with he|he
    ·exact hwl e he
    ·rw[List.eq_of_mem_replicate he,<-VC.len _ (Fc m ho hag),hzs]) _ rfl
  unfold Oper.wp;rw[A8];simp only[builtin,List.map_toArray,List.map_cons,List.map_nil,e1,hya,Sem.run_bind,hrun,Result.andThen_ok,Sem.run_pure];refine⟨_,N,W.set r ((Y,.row te sz (l.take i++List.replicate k (zAV zl ag))),[m.w.heap.size]),rfl,?_,G'.perm (hp2 _).symm,((h6.mono (Hj m)).mono hle).put hd ?_⟩
  ·rw[List.map_set,h2'];rfl
  ·refine⟨rfl,.inr rfl,_,_,rfl,λL' hL'=>?_⟩
   simp only[if_true,Option.some.injEq]at hL';subst hL';exact .inr ⟨rfl,by simpa using hge,0,by simp,λ_=>by simp⟩
end
end
section
open Go.RowKit
section
variable {P:Program}{dst:Option Tmp}{ty t te tx:TypeId}{pos:String}{after:Array Edge}{g:Option (Nat×Bool)}{x y:Operand}{p q r sz X Y Z V:Nat}{l l2:List AV}
theorem OpT.overlaps{f:FuncId}{fn:Func}{tR:TypeId}{ats:Array TypeId}{m j k:Nat}(hf:P.funcs[f]?=some fn)(hname:(fn.name== "runtime.NumGoroutine")=false)(hb:fn.body.isNone=true)(hn:Extern.findNext fn=none)(hx0:Extern.find fn=some (Extern.SlicesOverlaps.overlaps #[t,t] #[tR]))
  (he:B4 P t=some te) (hsz:tSz P te=some sz) (h0:0<sz) (hm:0<m) (hk:0<k) (hpq:p≠q):
  OpT P ⟨dst,.call ⟨.value (.func f),#[x,y],ats⟩,ty,pos,after,g⟩ [(x,.sl V 0 m),(y,.sl X j k)] [(p,(V,.row te sz l2)),(q,(X,.row te sz l))] (.prim (.bool false)) []:=by
 intro nt m0 T S a w hx hS hd hr;obtain⟨m1,N,W,rfl,h2,h3,h4⟩:=hr;have h2':W.map (·.1)=S:=h2;have hxa:VV m1 (.sl V 0 m) (a.eval x) []:=h4.ev (hx (x,.sl V 0 m) (by simp));have hya:VV m1 (.sl X j k) (a.eval y) []:=h4.ev (hx (y,.sl X j k) (by simp));have hSp:=hS (p,(V,.row te sz l2)) (by simp);have hSq:=hS (q,(X,.row te sz l)) (by simp);rw[<-h2',List.getElem?_map]at hSp hSq;cases hzp:W[p]? with
 |none=>rw[hzp]at hSp;cases hSp
 |some zp=>
 cases hzq:W[q]? with
 |none=>rw[hzq]at hSq;cases hSq
 |some zq=>
  rw[hzp]at hSp;rw[hzq]at hSq;simp only[Option.map_some,Option.some.injEq]at hSp hSq;obtain⟨zp1,bsp⟩:=zp;obtain⟨zq1,bsq⟩:=zq;simp only at hSp hSq;subst hSp hSq;obtain⟨R,hp1,_⟩:=EM hpq hzp hzq;have G:=h3.perm hp1;have hown:=G.own;obtain⟨_,L,hL,hLs,hO⟩:=G.obj _ (List.mem_cons_self ..);obtain⟨_,L2,hL2,hLs2,hO2⟩:=G.obj ((X,.row te sz l),bsq) (by simp);obtain⟨_,_,A,d,e1,hs⟩:=hxa;obtain⟨_,_,A2,d2,e2,hs2⟩:=hya;injection e1 with e1
  injection e2 with e2
  rcases hs L hL with⟨_,_,_,h⟩|⟨n1,c1,o1,v1,_⟩
  ·omega
  rcases hs2 L2 hL2 with⟨_,_,_,h⟩|⟨n2,c2,o2,v2,_⟩
  ·omega
  rcases hO with⟨h,_⟩|⟨_,arr,b1,rfl,hb1,hsz1,_⟩
  ·rw[n1]at h;cases h
  rcases hO2 with⟨h,_⟩|⟨_,arr2,b2,rfl,hb2,hsz2,_⟩
  ·rw[n2]at h;cases h
  have hne:L.blk≠L2.blk:=by
   intro e;rw[A5,A5]at hown;simp[e]at hown
  injection v1 with v1 _ _
  injection v2 with v2 _ _
  subst v1 v2
  have hrun:=Lib.run_overlaps_apart (P:=P) m1.w t tR te (A9 he) sz (λw=>by
   unfold tSz at hsz;cases hq:P.info? te with
   |none=>rw[hq]at hsz;cases hsz
   |some i=>rw[hq]at hsz;injection hsz with hsz;simp[sizeOf,typeInfo,hq,hsz,Sem.run_bind,Sem.run_pure,Result.andThen_ok]) ⟨L.blk,o1,none⟩ ⟨L2.blk,o2,none⟩ m d k d2 hne te te arr.size arr2.size (by simp[World.shape?,hb1]) (by simp[World.shape?,hb2]) (by rw[hsz2];exact Nat.ne_of_gt (Nat.mul_pos (by omega) h0)) (by simp[World.frozen?,hb1]) (by simp[World.frozen?,hb1])
  have hcall:=run_callFunc_extern (P:=P) hf hname hb hn hx0 #[a.eval x,a.eval y] m1.w;rw[e1,e2,hrun]at hcall
  have hexec:(execOp a.eval ⟨dst,.call ⟨.value (.func f),#[x,y],ats⟩,ty,pos,after,g⟩).run P m1.w= .ok (.value (.bool false)) m1.w:=by
   have ha:∀f,a.eval (.func f)= .func (.func f) #[] #[]:=λ_=>rfl
   simp[execOp,resolve,ha,Deferred.ofValue,invoke,e1,e2,hcall,Result.andThen_ok]
  unfold Oper.wp;rw[hexec];exact⟨m1,N,W,rfl,h2,h3,h4.put hd (A3 _)⟩
end
section
variable {P:Program}{dst:Option Tmp}{ty t te tx ty2:TypeId}{pos:String}{after:Array Edge}{g:Option (Nat×Bool)}{x y:Operand}{p q r sz X Y Z V by_:Nat}{l l2:List AV}{T:List (Nat×AV)}{S:List AB}{c:Option (List Bool)}{k k' k0:IntKind}{qi qj:Int}
theorem W.copyO{j a i b:Nat}(n:Nat)[TEl P t te][TSize P te sz](hx:Rd c T x (.sl X j a))(hy:Rd c T y (.sl Y i b))(hSp:At S p (X,.row te sz l))(hSq:At S q (Y,.row te sz l2))(hpq:Nat.beq p q=false)(ha:0<a)(hb:0<b)(hk:n=min b a)(hj:j<=l.length)(hi:i+n<=l2.length)(hfr:FreeL l)(hfr2:FreeL l2)(hw2:∀e∈l2,e.width=sz):
  Stp c P ⟨dst,.call ⟨.builtin .copy,#[x,y],#[t,t]⟩,ty,pos,after,g⟩ T S [(x,.sl X j a),(y,.sl Y i b)] [(p,(X,.row te sz l)),(q,(Y,.row te sz l2))] (.prim (.int .i64 n)) [(p,(X,.row te sz (l.take j++(l2.drop i).take n++l.drop (j+n))))]:=
 ⟨.copyO n TEl.h TSize.h ha hb hk hj hi hfr hfr2 hw2 (Nat.ne_of_beq_eq_false hpq),.cons hx (.cons hy .nil),.cons hSp (.cons hSq .nil)⟩
theorem W.copyS{j a i b:Nat}(n:Nat)[TEl P t te][TSize P te sz](hx:Rd c T x (.sl X j a))(hy:Rd c T y (.sl X i b))(hSp:At S p (X,.row te sz l))(ha:0<a)(hb:0<b)(hk:n=min b a)(hj:j<=l.length)(hi:i+n<=l.length)(hfr:FreeL l)(hw2:∀e∈l,e.width=sz):
  Stp c P ⟨dst,.call ⟨.builtin .copy,#[x,y],#[t,t]⟩,ty,pos,after,g⟩ T S [(x,.sl X j a),(y,.sl X i b)] [(p,(X,.row te sz l))] (.prim (.int .i64 n)) [(p,(X,.row te sz (l.take j++(l.drop i).take n++l.drop (j+n))))]:=
 ⟨.copyS n TEl.h TSize.h ha hb hk hj hi hfr hw2,.cons hx (.cons hy .nil),.cons hSp .nil⟩
theorem W.cap{n cc:Nat}{u0:Value}[TEl P t te](hc:JW cc u0)(hx:Rd c T x (.sl X 0 n))(hSp:At S p (X,.row te sz l))(hSq:At S q (Z,.tv (Ez X cc u0))):
  Stp c P ⟨dst,.call ⟨.builtin .cap,#[x],#[t]⟩,ty,pos,after,g⟩ T S [(x,.sl X 0 n)] [(p,(X,.row te sz l)),(q,(Z,.tv (Ez X cc u0)))] (.prim (.int .i64 cc)) []:=
 ⟨.cap TEl.h hc,.cons hx .nil,.cons hSp (.cons hSq .nil)⟩
theorem QW{n cc:Nat}{u0:Value}(hi:Nat)[TEl P t te][TSize P te sz](hc:JW cc u0)(hx:Rd c T x (.sl X 0 n))(hy:Rd c T y (.prim (.int k qi)))(hSp:At S p (X,.row te sz l))(hSq:At S q (Z,.tv (Ez X cc u0)))(hq:qi=(hi:Int))(hh:hi<=cc):
  Stp c P ⟨dst,.slice t x none (some y) none,ty,pos,after,g⟩ T S [(x,.sl X 0 n),(y,.prim (.int k qi))] [(p,(X,.row te sz l)),(q,(Z,.tv (Ez X cc u0)))] (.sl X 0 hi) []:=
 ⟨.slice_cap TEl.h TSize.h hc hq hh,.cons hx (.cons hy .nil),.cons hSp (.cons hSq .nil)⟩
theorem Rn{i cc:Nat}{u0:Value}{zl:List Value}{ag:Bool}(n:Nat)[TRo P t te sz by_][TZe P te zl][TAg P te ag](hc:JW cc u0)(hx:Rd c T x (.sl X 0 i))(hy:Rd c T y (.prim (.int k qi)))(hSp:At S p (X,.row te sz l))(hSq:At S q (Z,.tv (Ez X cc u0)))(hSr:At S r (Y,.gone))(hq:qi=(n:Int))(hag:ag=true\/zl.length=1)(hzs:zl.length=sz)(htx:Qr P tx=true)(h0:0<n)(hb:(i+n)*by_<=140737488355328)(hby:0<by_)(hroom:cc<i+n)(hi:i<=l.length)(hfr:FreeL l):
  Stp c P ⟨dst,.call ⟨.builtin .append,#[x,y],#[t,tx]⟩,ty,pos,after,g⟩ T S [(x,.sl X 0 i),(y,.prim (.int k qi))] [(p,(X,.row te sz l)),(q,(Z,.tv (Ez X cc u0))),(r,(Y,.gone))] (.sl Y 0 (i+n)) [(r,(Y,.row te sz (l.take i++List.replicate n (zAV zl ag))))]:=
 ⟨.appz_grow TRo.h TZe.h hag hzs htx hq h0 hb hby hc hroom hi hfr,.cons hx (.cons hy .nil),.cons hSp (.cons hSq (.cons hSr .nil))⟩
theorem W.over{f:FuncId}{fn:Func}{tR:TypeId}{ats:Array TypeId}{m j n:Nat}[TEl P t te][TSize P te sz](hf:P.funcs[f]?=some fn)(hname:(fn.name== "runtime.NumGoroutine")=false)(hb:fn.body.isNone=true)(hn:Extern.findNext fn=none)(hx0:Extern.find fn=some (Extern.SlicesOverlaps.overlaps #[t,t] #[tR]))
  (hx:Rd c T x (.sl V 0 m)) (hy:Rd c T y (.sl X j n)) (hSp:At S p (V,.row te sz l2)) (hSq:At S q (X,.row te sz l)) (hpq:Nat.beq p q=false) (h0:0<sz) (hm:0<m) (hk:0<n):
  Stp c P ⟨dst,.call ⟨.value (.func f),#[x,y],ats⟩,ty,pos,after,g⟩ T S [(x,.sl V 0 m),(y,.sl X j n)] [(p,(V,.row te sz l2)),(q,(X,.row te sz l))] (.prim (.bool false)) []:=
 ⟨.overlaps hf hname hb hn hx0 TEl.h TSize.h h0 hm hk (Nat.ne_of_beq_eq_false hpq),.cons hx (.cons hy .nil),.cons hSp (.cons hSq .nil)⟩
theorem W.shr(n:Nat)(hx:Rd c T x (.prim (.int k qi)))(hy:Rd c T y (.prim (.int k' qj)))(hj:qj=(n:Int))(hn:n<=k.bits):
  Stp c P ⟨dst,.binOp .shr t x y ty2,ty,pos,after,g⟩ T S [(x,.prim (.int k qi)),(y,.prim (.int k' qj))] [] (.prim (.int k (qi.fdiv (2^n)))) []:=⟨.shr hj hn,.cons hx (.cons hy .nil),.nil⟩
theorem W.conv(k0 k':IntKind){t2:TypeId}(h1:P.underlying t=some (.int k0))(h2:P.underlying t2=some (.int k'))(hx:Rd c T x (.prim (.int k qi)))(hw:k'.wrap qi=qi):
  Stp c P ⟨dst,.convert t t2 x,ty,pos,after,g⟩ T S [(x,.prim (.int k qi))] [] (.prim (.int k' qi)) []:=⟨.conv h1 h2 hw,.cons hx .nil,.nil⟩
end
end
section
variable {ro:Option Nat}
section
variable {P:Program}{ty t t' te:TypeId}{pos:String}{after:Array Edge}{g:Option (Nat×Bool)}{dst:Option Tmp}{x y z:Operand}{l:List AV}{sz:Nat}{c:Option (List Bool)}{T:List (Nat×AV)}{S:List AB}{i j:Int}{k k2:IntKind}
theorem OpT.slice_lst_2{lo hi:Nat}{qi qj:Int}(he:B4 P t=some te)(hsz:tSz P te=some sz)(hq:qi=(lo:Int))(hq2:qj=(hi:Int))(hlh:lo<=hi)(hh:hi<=l.length):OpT P ⟨dst,.slice t x (some y) (some z) none,ty,pos,after,g⟩ [(x,.lst false t' sz l),(y,.prim (.int k qi)),(z,.prim (.int k2 qj))] [] (.lst false t' sz ((l.take hi).drop lo)) []:=
 .pure_ λm a hx hS=>by
  obtain⟨_,A,c,e1,h3,hw,h4⟩:=hx (x,.lst false t' sz l) (by simp);have hy:=(hx (y,.prim (.int k qi)) (by simp)).prim;have hz:=(hx (z,.prim (.int k2 qj)) (by simp)).prim;injection e1 with e1
  simp only at e1 hy hz;subst hq;subst hq2;have hr:=Cz (P:=P) (w:=m.w) he hsz (A:=A) (len:=l.length) (cap:=c) (lo:=lo) (hi:=hi) (vl:=some (.int k lo)) (vh:=some (.int k2 hi)) (λu hu=>⟨k,by injection hu with hu;exact hu.symm⟩) (by simp) (λu hu=>⟨k2,by injection hu with hu;exact hu.symm⟩) (by simp) hlh (by omega);have hl:((l.take hi).drop lo).length=hi-lo:=by rw[List.length_drop,List.length_take];omega
  refine⟨_,by simp only[execOp,Option.map_none,Option.map_some,e1,hy,hz,Sem.run_bind,hr,Result.andThen_ok];rfl,rfl,_,c-lo,by rw[hl],by rw[hl];omega,λe he=>hw e (List.mem_of_mem_take (List.mem_of_mem_drop he)),λh0=>?_⟩;rw[hl]at h0⊢;obtain⟨b,off,arr,tt,r,rfl,hF,hb,hc⟩:=h4 (by omega);obtain⟨p1,p2,e2,h5,_⟩:=VCs.take hw hc hh;obtain⟨rfl,rfl⟩:p1=[]/\p2=[]:=by simpa using e2.symm
  obtain⟨p3,p4,e3,_,h6⟩:=VCs.take (l:=l.take hi) (λe he=>hw e (List.mem_of_mem_take he)) h5 (k:=lo) (by rw[List.length_take];omega);obtain⟨rfl,rfl⟩:p3=[]/\p4=[]:=by simpa using e3.symm
  rw[if_neg (by omega)];refine⟨b,off+lo*sz,arr,tt,r,by rw[Option.map_some,DH],hF,hb,?_⟩;rw[List.take_take,Nat.min_eq_left (Nat.mul_le_mul_right _ hh)]at h6;have e:((arr.toList.drop off).take (hi*sz)).drop (lo*sz)=(arr.toList.drop (off+lo*sz)).take ((hi-lo)*sz):=by rw[List.drop_take,List.drop_drop,<-Nat.sub_mul]
  rw[e]at h6;exact h6
theorem ST(a b:Nat)[TEl P t te][TSize P te sz](hx:Rd c T x (.lst false t' sz l))(hy:Rd c T y (.prim (.int k i)))(hz:Rd c T z (.prim (.int k2 j)))(hq:i=(a:Int))(hq2:j=(b:Int))(hab:a<=b)(hb:b<=l.length):
  Stp c P ⟨dst,.slice t x (some y) (some z) none,ty,pos,after,g⟩ T S [(x,.lst false t' sz l),(y,.prim (.int k i)),(z,.prim (.int k2 j))] [] (.lst false t' sz ((l.take b).drop a)) []:=⟨.slice_lst_2 TEl.h TSize.h hq hq2 hab hb,.cons hx (.cons hy (.cons hz .nil)),.nil⟩
end
theorem Rc{P:Program}{t:TypeId}(n:Nat)(h1:P.underlying t=some (.struct (P.fieldsOf t)))(h2:P.stoodInHeld t=false)(h:Qq P t=true)(a b c d:Int)(w:World):(Op.equalIn (n+2) t (.agg #[.int .i64 a,.int .i64 b]) (.agg #[.int .i64 c,.int .i64 d])).run P w= .ok (decide (a=c)&&decide (b=d)) w:=by
 rw[run_equalIn_agg w (n+1) t _ _ h1 h2];unfold Qq at h;split at h
 ·rename_i f1 f2 hf
  simp only[Bool.and_eq_true,bne_iff_ne,ne_eq,beq_iff_eq]at h;obtain⟨⟨⟨⟨n1,n2⟩,o1⟩,o2⟩,hu⟩:=h;split at hu
  ·rename_i k1 k2 u1 u2
   have p1:∀x y:Int,(part f1.type #[.int .i64 x,.int .i64 y] f1.offset).run P w= .ok (.int .i64 x) w:=λx y=>Dc u1 (by rw[o1];rfl) w
   have p2:∀x y:Int,(part f2.type #[.int .i64 x,.int .i64 y] f2.offset).run P w= .ok (.int .i64 y) w:=λx y=>Dc u2 (by rw[o2];rfl) w
   have q1:∀a c:Int,(Op.equalIn (n+1) f1.type (.int .i64 a) (.int .i64 c)).run P w= .ok (a==c) w:=λa c=>run_equalIn_int (P:=P) w n f1.type .i64 k1 a c u1
   have q2:∀a c:Int,(Op.equalIn (n+1) f2.type (.int .i64 a) (.int .i64 c)).run P w= .ok (a==c) w:=λa c=>run_equalIn_int (P:=P) w n f2.type .i64 k2 a c u2
   rw[hf];by_cases e1:a=c
   ·by_cases e2:b=d
    ·simp[Op.eqFields,n1,n2,Sem.run_bind,p1,p2,q1,q2,e1,e2,Sem.run_pure,Sem.run_ite,Result.andThen_ok]
    ·simp[Op.eqFields,n1,n2,Sem.run_bind,p1,p2,q1,q2,e1,e2,Sem.run_pure,Sem.run_ite,Result.andThen_ok]
   ·simp[Op.eqFields,n1,Sem.run_bind,p1,q1,e1,Sem.run_pure,Sem.run_ite,Result.andThen_ok]
  ·cases hu
 ·cases h
end
section
open Go.RowKit
section
variable {P:Program}{m0 m:Mem}{N X Y:Nat}{R:Zs}{ex:List Nat}{t te ty t2:TypeId}{sz by_:Nat}{l ls:List AV}{dst:Option Tmp}{pos:String}{after:Array Edge}{g:Option (Nat×Bool)}{x y z u:Operand}{p q:Nat}
theorem IM(w:World)(a:Addr):(loadCells a 0).run P w= .ok #[] w:=by
 have:=run_loadCells_list (P:=P) w a [] (λj v h=>by simp at h);simpa using this
theorem OpT.appS{i j k:Nat}(he:B4 P t=some te)(hsz:tSz P te=some sz)(hk:0<k)(hi:i+k<=l.length)(hj:j+k<=l.length)(hfr:FreeL l)(hw2:∀e∈l,e.width=sz):
  OpT P ⟨dst,.call ⟨.builtin .append,#[x,y],#[t,t]⟩,ty,pos,after,g⟩ [(x,.sl X 0 i),(y,.sl X j k)] [(p,(X,.row te sz l))] (.sl X 0 (i+k)) [(p,(X,.row te sz (l.take i++(l.drop j).take k++l.drop (i+k))))]:=by
 intro nt m0 T S ac w hx hS hd hr;obtain⟨m,N,Z,rfl,h2,h3,h4⟩:=hr;have h2':Z.map (·.1)=S:=h2;have hxa:VV m (.sl X 0 i) (ac.eval x) []:=h4.ev (hx (x,.sl X 0 i) (by simp));have hya:VV m (.sl X j k) (ac.eval y) []:=h4.ev (hx (y,.sl X j k) (by simp));have hSp:=hS (p,(X,.row te sz l)) (by simp);rw[<-h2',List.getElem?_map]at hSp;cases hz:Z[p]? with
 |none=>rw[hz]at hSp;cases hSp
 |some z=>
  rw[hz]at hSp;simp only[Option.map_some,Option.some.injEq]at hSp;obtain⟨z1,bs⟩:=z;simp only at hSp;subst hSp;obtain⟨A2,q2,cs,e1,hcs,hcl,hsrc⟩:=H1 (h3.obj _ (List.mem_of_getElem? hz)) hya hk hfr hj;obtain⟨R,hp1,hp2⟩:=BJ hz;have G1:=h3.perm hp1;have hO:=G1.obj _ (List.mem_cons_self ..);obtain⟨hU,L,hL,hLs,hO⟩:=hO;obtain⟨_,hU',A,q,e2,hsl⟩:=hxa;injection e2 with e2
  rcases hO with⟨h9,h10,_⟩|⟨hnil,arr,bs',rfl,hb2,harr,hlc,hcap,hw,hv⟩
  ·subst h10;simp at hi;omega
  rcases hsl L hL with⟨h5,_,_,_⟩|⟨h5,h6,o,h7,h8⟩
  ·rw[h5]at hnil;cases hnil
  have ho:=h8 (.inr rfl);injection h7 with h7 h9 h10
  subst h7;have hkl:((l.drop j).take k).length=k:=by rw[List.length_take,List.length_drop];omega
  have hns:∀e∈(l.drop j).take k,e.width=sz:=λe he=>hw2 e (List.mem_of_mem_drop (List.mem_of_mem_take he))
  have hle:i+k<=L.cap:=by omega
  have hfit:i*sz+cs.length<=arr.size:=by rw[hcl,harr,<-Nat.add_mul];exact Nat.mul_le_mul_right _ hle
  obtain⟨G2,hle2⟩:=Good.over G1 hL h5 rfl hb2 harr hlc hcap hLs hw hv hfr (off:=i) (by omega) (by rw[hkl];exact hle) hns hcs;rw[hkl]at G2;have hl:=run_loadCells_list (P:=P) m.w A2 cs hsrc;have hst:=run_storeCells_at P L.blk (i*sz) te cs 0 arr m.w hb2 (by simpa using hfit) (VCs.ones _ hcs);have hu:=A9 he;unfold tSz at hsz;rw[hcl]at hl
  have hrun:(Builtin.append_ #[t,t] ty #[ac.eval x,ac.eval y]).run P m.w= .ok (.slice (some ⟨L.blk,o,none⟩) (i+k) q) (m.w.setRow L.blk (arr.toList.take (i*sz)++cs++arr.toList.drop (i*sz+cs.length)).toArray):=by
   rw[show ac.eval y=_ from e1,show ac.eval x=_ from e2,ho];cases hq:P.info? te with
   |none=>rw[hq]at hsz;cases hsz
   |some inf=>
    rw[hq]at hsz;injection hsz with hsz
    have hqc:i+k<=q:=by omega
    have hst':=hst;simp only[Nat.add_zero]at hst';simp[Builtin.append_,run_underlying hu,Builtin.lenOf,Builtin.firstCells,sizeOf,typeInfo,hq,hsz,hl,hqc,DH];rw[hst',Result.andThen_ok];simp
  unfold Oper.wp;rw[A8];simp only[builtin,List.map_toArray,List.map_cons,List.map_nil,Sem.run_bind,hrun,Result.andThen_ok,Sem.run_pure];refine⟨_,N,_,rfl,?_,G2.perm (hp2 _).symm,(h4.mono hle2).put hd ?_⟩
  ·rw[List.map_set,h2'];rfl
  ·refine⟨rfl,hle2.U _ hU,_,_,rfl,λL' hL'=>?_⟩
   have:m.μ X=some L':=hL';rw[hL]at this;obtain rfl:=Option.some.inj this;exact .inr ⟨h5,by omega,o,by rw[h10],λ_=>ho⟩
theorem OpT.app0{i j:Nat}(he:B4 P t=some te)(hsz:tSz P te=some sz):
  OpT P ⟨dst,.call ⟨.builtin .append,#[x,y],#[t,t]⟩,ty,pos,after,g⟩ [(x,.sl X 0 i),(y,.sl X j 0)] [(p,(X,.row te sz l))] (.sl X 0 i) []:=
 .pure_ λm ac hx hS=>by
  obtain⟨bs,hO⟩:=hS (p,(X,.row te sz l)) (by simp);have hxa:=hx (x,.sl X 0 i) (by simp);have hya:=hx (y,.sl X j 0) (by simp);refine⟨ac.eval x,?_,hxa⟩;obtain⟨_,hU',A,q,e2,hsl⟩:=hxa;obtain⟨_,_,A2,q2,e3,_⟩:=hya;injection e2 with e2
  injection e3 with e3
  have hq:i<=q:=by
   obtain⟨hU,L,hL,hLs,hO⟩:=hO;rcases hsl L hL with⟨_,h5,_,h6⟩|⟨h5,h6,o,h7,h8⟩
   ·omega
   ·injection h7 with h7 h9 h10;omega
  have hu:=A9 he;unfold tSz at hsz;rw[A8];simp only at e2 e3;cases hqi:P.info? te with
  |none=>rw[hqi]at hsz;cases hsz
  |some inf=>
   cases A2<;>cases A<;>simp[builtin,Builtin.append_,run_underlying hu,Builtin.lenOf,Builtin.firstCells,sizeOf,typeInfo,hqi,e2,e3,hq,IM,storeCells,Sem.run_bind,Sem.run_pure,Result.andThen_ok]
theorem OpT.app_nil{t':TypeId}(T:MR P t=some (te,sz,by_))(hb:ls.length*by_<=140737488355328)(hm:ls.length<=maxLen):OpT P ⟨dst,.call ⟨.builtin .append,#[x,y],#[t,t]⟩,ty,pos,after,g⟩ [(x,.prim (.slice none 0 0)),(y,.lst false t' sz ls)] [(q,(Y,.gone))] (.sl Y 0 ls.length) [(q,(Y,.row te sz ls))]:=by
 intro nt m0 T' S a w hx hS hd hr;obtain⟨m1,N1,Z1,rfl,h2,h3,h4⟩:=hr;have h2':Z1.map (·.1)=S:=h2;have hxa:=(h4.ev (hx (x,.prim (.slice none 0 0)) (by simp))).prim;have hya:VV m1 (.lst false t' sz ls) (a.eval y) []:=h4.ev (hx (y,.lst false t' sz ls) (by simp));have hSq:=hS (q,(Y,.gone)) (by simp);rw[<-h2',List.getElem?_map]at hSq;cases hz:Z1[q]? with
 |none=>rw[hz]at hSq;cases hSq
 |some z=>
  rw[hz]at hSq;simp only[Option.map_some,Option.some.injEq]at hSq;obtain⟨z1,bsY⟩:=z;simp only at hSq;subst hSq;obtain⟨R,hp1,hp2⟩:=BJ hz;obtain⟨m,hmw,G,hle0,hvn⟩:=Good.adopt (h3.perm hp1) te sz;have G':=G.perm (List.Perm.swap ..);have hya2:VV m (.lst false t' sz ls) (a.eval y) []:=hya.mono hle0 (by simp);have hvn':VV m (.sl N1 0 ([]:List AV).length) (.slice none 0 0) []:=hvn;obtain⟨xs,bs0,hown,hv,hwl,hbs⟩:=KE (G'.obj ((N1,.row te sz []),[]) (by simp)) hvn';obtain⟨_,A,c,e1,hkc,hws,hrd⟩:=hya2;injection e1 with e1
  obtain⟨news,hnl,hnc,hnv⟩:∃news:List Value,news.length=ls.length*sz/\(0<ls.length->∃b off,A=some ⟨b,off,none⟩/\∀j u,news[j]?=some u->m.w.cell? ⟨b,off+j,none⟩=some u)/\VCs m ls news []:=by
   rcases Nat.eq_zero_or_pos ls.length with h0|h0
   ·have:ls=[]:=List.eq_nil_of_length_eq_zero h0
    subst this;exact⟨[],by simp,λh=>absurd h (by simp),VCs.nil⟩
   ·obtain⟨b,off,arr,tt,r,hA,hF,hb,hc⟩:=hrd h0
    refine⟨_,by rw[VCs.len _ hc,Ba hws],λ_=>⟨b,off,hA,λj u hj=>?_⟩,hc⟩;rw[List.getElem?_take]at hj;split at hj
    ·rw[List.getElem?_drop]at hj
     simp only[World.cell?,hb];simpa using hj
    ·cases hj
  obtain⟨v',w',hrun,hown',hg,hat⟩:=Eq T m.w ty hown hkc hnl hnc (VCs.ones _ hnv) (by simpa using hb) (by simpa using hm);obtain⟨m',bs',hw',G2,hle,hv'⟩:=Good.app G' hv hnv (λe he=>by rcases List.mem_append.1 he with h|h;exact hwl e h;exact hws e h) hbs hown' hg hat
  have hex:(execOp a.eval ⟨dst,.call ⟨.builtin .append,#[x,y],#[t,t]⟩,ty,pos,after,g⟩).run P m1.w= .ok (.value v') w':=by
   rw[A8,<-hmw];simp only[builtin,List.map_toArray,List.map_cons,List.map_nil,e1,show a.eval x=_ from hxa,Sem.run_bind,hrun,Result.andThen_ok,Sem.run_pure]
  unfold Oper.wp;rw[hex];have G3:=G2.sub (List.sublist_cons_self _ _);simp only[List.length_nil,Nat.zero_add,List.nil_append]at G3 hv';refine⟨m',N1+1,_,hw',?_,G3.perm (hp2 _).symm,(h4.mono (hle0.trans hle)).put hd hv'⟩;rw[List.map_set,h2'];rfl
theorem OpT.slice_lohi{t':TypeId}{k k':IntKind}{off n lo hi:Nat}{qi qj:Int}(he:B4 P t=some te)(hsz:tSz P te=some sz)(hq:qi=(lo:Int))(hq':qj=(hi:Int))(hh:lo<=hi)(hl:off+hi<=l.length):OpT P ⟨dst,.slice t x (some y) (some z) none,ty,pos,after,g⟩ [(x,.sl X off n),(y,.prim (.int k qi)),(z,.prim (.int k' qj))] [(p,(X,.row t' sz l))] (.sl X (off+lo) (hi-lo)) []:=
 .pure_ λm a hx hS=>by
  obtain⟨bs,hU,L,h1,h2,hO⟩:=hS (p,(X,.row t' sz l)) (by simp);obtain⟨_,hU',A,c,e1,h3⟩:=hx (x,.sl X off n) (by simp);have hy:=(hx (y,.prim (.int k qi)) (by simp)).prim;have hz:=(hx (z,.prim (.int k' qj)) (by simp)).prim;injection e1 with e1
  simp only at e1 hy hz;subst hq hq'
  have hlc:l.length<=L.cap\/(L.isNil=true/\l=[]):=by
   rcases hO with⟨h4,h5,_⟩|⟨_,_,_,_,_,_,h6,_⟩
   ·exact .inr ⟨h4,h5⟩
   ·exact .inl h6
  have hcap:hi<=c:=by
   rcases h3 L h1 with⟨_,e,e2,e'⟩|⟨hnn,h4,o,e,_⟩
   ·rcases hO with⟨_,h5,_⟩|⟨h5,_⟩
    ·subst h5;simp at hl;omega
    ·simp_all
   ·injection e with _ _ e
    rcases hlc with h|⟨h,_⟩
    ·omega
    ·rw[hnn]at h;cases h
  have hr:=Cz (P:=P) (w:=m.w) he hsz (A:=A) (len:=n) (cap:=c) (lo:=lo) (hi:=hi) (vl:=some (.int k lo)) (vh:=some (.int k' hi)) (λu hu=>⟨k,by injection hu with hu;exact hu.symm⟩) (by simp) (λu hu=>⟨k',by injection hu with hu;exact hu.symm⟩) (by simp) hh hcap;refine⟨_,by simp only[execOp,Option.map_none,Option.map_some,e1,hy,hz,Sem.run_bind,hr,Result.andThen_ok];rfl,rfl,hU',_,_,rfl,λL' hL'=>?_⟩;rw[h1]at hL';injection hL' with hL';subst hL'
  rcases h3 L h1 with⟨h5,e,e2,e3⟩|⟨h5,h4,o,e,h6⟩
  ·injection e with e4 e5 e6
   subst e4 e6;have:hi=0:=by omega
   subst this;have:lo=0:=by omega
   subst this;exact .inl ⟨h5,by simp,by omega,by omega⟩
  ·injection e with e4 e5 e6
   subst e4 e6;simp only[Option.map_some]
   have hlc':l.length<=L.cap:=by
    rcases hlc with h|⟨h,_⟩
    ·exact h
    ·rw[h5]at h;cases h
   by_cases hc:lo<L.cap-off
   ·refine .inr ⟨h5,by omega,o+lo*sz,?_,λ_=>?_⟩
    ·rw[if_neg (by omega),DH]
     congr 1
     omega
    ·rw[h6 (.inl (by omega)),h2,Nat.add_mul]
   ·have hlo:lo=L.cap-off:=by omega
    refine .inr ⟨h5,by omega,o,by rw[if_pos hlo.symm];congr 1;omega,λh=>?_⟩;rcases h with h|h
    ·omega
    ·have h0:off=0:=by omega
     subst h0;rw[h6 (.inr rfl)];have:lo=0:=by omega
     subst this;simp
theorem OpT.slice3{t':TypeId}{k k' k2:IntKind}{off n lo hi mx:Nat}{qi qj qm:Int}(he:B4 P t=some te)(hsz:tSz P te=some sz)(hq:qi=(lo:Int))(hq':qj=(hi:Int))(hqm:qm=(mx:Int))(hh:lo<=hi)(hm:hi<=mx)(hl:mx<=n):OpT P ⟨dst,.slice t x (some y) (some z) (some u),ty,pos,after,g⟩ [(x,.sl X off n),(y,.prim (.int k qi)),(z,.prim (.int k' qj)),(u,.prim (.int k2 qm))] [(p,(X,.row t' sz l))] .dead []:=
 .pure_ λm a hx hS=>by
  obtain⟨bs,hU,L,h1,h2,hO⟩:=hS (p,(X,.row t' sz l)) (by simp);obtain⟨_,hU',A,c,e1,h3⟩:=hx (x,.sl X off n) (by simp);have hy:=(hx (y,.prim (.int k qi)) (by simp)).prim;have hz:=(hx (z,.prim (.int k' qj)) (by simp)).prim;have hu:=(hx (u,.prim (.int k2 qm)) (by simp)).prim;injection e1 with e1
  simp only at e1 hy hz hu;subst hq hq' hqm
  have hcap:n<=c:=by
   rcases h3 L h1 with⟨_,e,_,e'⟩|⟨_,h4,o,e,_⟩
   ·omega
   ·injection e with _ _ e;omega
  have hte:=A9 he;unfold tSz at hsz;cases hqi:P.info? te with
  |none=>rw[hqi]at hsz;cases hsz
  |some inf=>
   have b1:(0:Int)<=mx/\(mx:Int)<=c:=⟨by omega,by omega⟩;have b2:(0:Int)<=hi/\(hi:Int)<=mx:=⟨by omega,by omega⟩;have b3:(0:Int)<=lo/\(lo:Int)<=hi:=⟨by omega,by omega⟩;have n1:mx<=c:=by omega
   exact⟨_,by simp[n1,hm,hh,execOp,e1,hy,hz,hu,Instr.sliceAt,Instr.slice,Instr.sliceBounds,Instr.sliceBound,asIntOf,run_underlying hte,sizeOf,typeInfo,hqi,b1,b2,b3,Sem.run_bind,Sem.run_pure,Result.andThen_ok];rfl,rfl⟩
end
end
section
open Go.RowKit
section
variable {P:Program}{ro:Option Nat}{nt:Nat}{ops:Array Oper}{Q:Exit->St->Prop}{rest:List Oper}{T:List (Nat×AV)}{S:List AB}{ty t te t2 t' ty2:TypeId}{pos:String}{after:Array Edge}{dst:Option Tmp}{c:Option (List Bool)}{g:Option (Nat×Bool)}{x y z u:Operand}{X Y p q sz by_:Nat}{l ls:List AV}{cd:Code}
theorem W.appS{i j:Nat}(n:Nat)[TEl P t te][TSize P te sz](h0:0<n)(hi:i+n<=l.length)(hj:j+n<=l.length)(hfr:FreeL l)(hw2:∀e∈l,e.width=sz)(hx:Rd c T x (.sl X 0 i))(hy:Rd c T y (.sl X j n))(hSp:At S p (X,.row te sz l)):
  Stp c P ⟨dst,.call ⟨.builtin .append,#[x,y],#[t,t]⟩,ty,pos,after,g⟩ T S [(x,.sl X 0 i),(y,.sl X j n)] [(p,(X,.row te sz l))] (.sl X 0 (i+n)) [(p,(X,.row te sz (l.take i++(l.drop j).take n++l.drop (i+n))))]:=
 ⟨.appS TEl.h TSize.h h0 hi hj hfr hw2,.cons hx (.cons hy .nil),.cons hSp .nil⟩
theorem W.app0{i j:Nat}[TEl P t te][TSize P te sz](hx:Rd c T x (.sl X 0 i))(hy:Rd c T y (.sl X j 0))(hSp:At S p (X,.row te sz l)):
  Stp c P ⟨dst,.call ⟨.builtin .append,#[x,y],#[t,t]⟩,ty,pos,after,g⟩ T S [(x,.sl X 0 i),(y,.sl X j 0)] [(p,(X,.row te sz l))] (.sl X 0 i) []:=
 ⟨.app0 TEl.h TSize.h,.cons hx (.cons hy .nil),.cons hSp .nil⟩
theorem Qe[TRo P t te sz by_](hb:ls.length*by_<=140737488355328)(hm:ls.length<=maxLen)(hx:Rd c T x (.prim (.slice none 0 0)))(hy:Rd c T y (.lst false t' sz ls))(hSq:At S q (Y,.gone)):
  Stp c P ⟨dst,.call ⟨.builtin .append,#[x,y],#[t,t]⟩,ty,pos,after,g⟩ T S [(x,.prim (.slice none 0 0)),(y,.lst false t' sz ls)] [(q,(Y,.gone))] (.sl Y 0 ls.length) [(q,(Y,.row te sz ls))]:=
 ⟨.app_nil TRo.h hb hm,.cons hx (.cons hy .nil),.cons hSq .nil⟩
theorem QX{k k':IntKind}{off n lo hi:Nat}{qi qj:Int}[TEl P t te][TSize P te sz](hx:Rd c T x (.sl X off n))(hy:Rd c T y (.prim (.int k qi)))(hz:Rd c T z (.prim (.int k' qj)))(hSp:At S p (X,.row t' sz l))(hq:qi=(lo:Int))(hq':qj=(hi:Int))(hh:lo<=hi)(hl:off+hi<=l.length):
  Stp c P ⟨dst,.slice t x (some y) (some z) none,ty,pos,after,g⟩ T S [(x,.sl X off n),(y,.prim (.int k qi)),(z,.prim (.int k' qj))] [(p,(X,.row t' sz l))] (.sl X (off+lo) (hi-lo)) []:=
 ⟨.slice_lohi TEl.h TSize.h hq hq' hh hl,.cons hx (.cons hy (.cons hz .nil)),.cons hSp .nil⟩
theorem W.slice3{k k' k2:IntKind}{off n lo hi mx:Nat}{qi qj qm:Int}[TEl P t te][TSize P te sz](hx:Rd c T x (.sl X off n))(hy:Rd c T y (.prim (.int k qi)))(hz:Rd c T z (.prim (.int k' qj)))(hu:Rd c T u (.prim (.int k2 qm)))(hSp:At S p (X,.row t' sz l))(hq:qi=(lo:Int))(hq':qj=(hi:Int))(hqm:qm=(mx:Int))(hh:lo<=hi)(hm:hi<=mx)(hl:mx<=n):
  Stp c P ⟨dst,.slice t x (some y) (some z) (some u),ty,pos,after,g⟩ T S [(x,.sl X off n),(y,.prim (.int k qi)),(z,.prim (.int k' qj)),(u,.prim (.int k2 qm))] [(p,(X,.row t' sz l))] .dead []:=
 ⟨.slice3 TEl.h TSize.h hq hq' hqm hh hm hl,.cons hx (.cons hy (.cons hz (.cons hu .nil))),.cons hSp .nil⟩
end
end
section
section
variable {ro:Option Nat}{P:Program}{nt:Nat}{ops:Array Oper}{Q:Exit->St->Prop}{rest:List Oper}{T:List (Nat×AV)}{S:List AB}{ty t te:TypeId}{sz:Nat}{x y:Operand}{pos:String}{after:Array Edge}{dst:Option Tmp}
end
end
section
theorem BT{P:Program}{res:List ResultVar}{Sf:List AB}{st:St}{r:AV}{S1:List AB}(rs rs':List AV)(c:CVs st.S rs rs' S1)(e:Jl rs'=r:=by rfl)(h:ResVs P st res rs:=by(repeat (first|exact .nil|refine .cons (.tmp (by rfl)) (by rfl) ?_|refine .cons (.cell (by rfl) (by exact At.f) TAg.h TSize.h (by exact rfl) (by exact rfl)) (by rfl) ?_)))(hS:Sf.Sublist S1:=by exact Sub.f):Ends P res Sf (λr' S'=>r'=r/\S'=[]) st:=⟨rs,rs',S1,[],h,c,hS,e,rfl⟩
theorem AS{P:Program}{res:List ResultVar}{Sf:List AB}{Q:AV->List AB->Prop}{st:St}(rs:List AV)(S':List AB)(e:Q (Jl rs) S')(h:ResVs P st res rs:=by(repeat (first|exact .nil|refine .cons (.tmp (by rfl)) (by rfl) ?_|refine .cons (.cell (by rfl) (by exact At.f) TAg.h TSize.h (by exact rfl) (by exact rfl)) (by rfl) ?_)))(hS:(S'++Sf).Sublist st.S:=by exact Sub.f):Ends P res Sf Q st:=⟨rs,rs,st.S,S',h,NT _ _,hS,e⟩
theorem HB{ro:Option Nat}{P:Program}{nt:Nat}{c d:Code}{Q Q2:Exit->St->Prop}{st:St}{β:Type}(R:β->Prop)(inv:β->St)(h1:AWP ro P nt c (andThen (λst'=>∃b,R b/\st'.Le (inv b)) Q2) st)(h2:∀b,R b->AWP ro P nt d Q (inv b)):AWP ro P nt c (andThen (AWP ro P nt d Q) Q2) st:=
 AWP.mono h1 λe st' h=>by
  cases e
  case normal=>obtain⟨b,hb,hl⟩:=h;exact AWP.weak hl (h2 b hb)
  all_goals exact h
theorem jnR{β:Type}{R:β->Prop}{inv:β->St}{st:St}(b:β)(hR:R b)(h0:st.Le (inv b):=by exact⟨by exact Lk.f,by exact Sub.f⟩):∃b,R b/\st.Le (inv b):=⟨b,hR,h0⟩
theorem O8{ro:Option Nat}{P:Program}{nt id:Nat}{c d:Code}{Q Q2:Exit->St->Prop}{st:St}{β:Type}(R:β->Prop)(inv:β->St)(h1:AWP ro P nt c (λe st'=>e= .normal/\∃b,R b/\st'.Le (inv b)) st)(h2:∀b,R b->AWP ro P nt d Q (inv b)):AWP ro P nt c (inB id (andThen (AWP ro P nt d Q) Q2)) st:=
 AWP.mono h1 λe st' ⟨he,b,hb,hl⟩=>by subst he;exact AWP.weak hl (h2 b hb)
section
variable {P:Program}{dst:Option Tmp}{ty t ty2:TypeId}{pos:String}{after:Array Edge}{g:Option (Nat×Bool)}{T:List (Nat×AV)}{S:List AB}{c:Option (List Bool)}{x y:Operand}{i j:Int}
theorem G7(k:Int)(h:i*j=k)(hr: -9223372036854775808<=k/\k<=9223372036854775807)(hx:Rd c T x (.prim (.int .i64 i)))(hy:Rd c T y (.prim (.int .i64 j))):Stp c P ⟨dst,.binOp .mul t x y ty2,ty,pos,after,g⟩ T S [(x,.prim (.int .i64 i)),(y,.prim (.int .i64 j))] [] (.prim (.int .i64 k)) []:=h▸W.mul hx hy (h▸hr)
theorem I5(a b:Nat)(k:Nat)(hi:i=(a:Int))(hj:j=(b:Int))(h0:0<b)(h:a/b=k)(hr:a<=9223372036854775807)(hx:Rd c T x (.prim (.int .i64 i)))(hy:Rd c T y (.prim (.int .i64 j))):Stp c P ⟨dst,.binOp .quo t x y ty2,ty,pos,after,g⟩ T S [(x,.prim (.int .i64 i)),(y,.prim (.int .i64 j))] [] (.prim (.int .i64 (k:Int))) []:=by
 have h1:IntKind.i64.wrap (i.tdiv j)=(k:Int):=by
  subst hi hj h;rw[<-Int.ofNat_tdiv];have:=Nat.div_le_self a b;generalize a/b=q at this⊢;exact DM (by omega) (by omega)
 exact h1▸W.quoW hx hy (by omega)
end
end
section
abbrev uA(x:UInt64):AV:=.prim (.int .u64 ((x.toNat:Nat):Int))
section
variable {P:Program}{dst:Option Tmp}{ty t ty2:TypeId}{pos:String}{after:Array Edge}{g:Option (Nat×Bool)}{T:List (Nat×AV)}{S:List AB}{c:Option (List Bool)}{x y:Operand}{i j:Int}{k k':IntKind}{a b:UInt64}
theorem OpT.res{o:Oper}{xs:List (Operand×AV)}{rS wS:List (Nat×AB)}{r r':Int}(h:OpT P o xs rS (.prim (.int k r)) wS)(e:r=r'):OpT P o xs rS (.prim (.int k r')) wS:=e▸h
theorem Gb(a:UInt64):a.toNat<18446744073709551616:=a.toNat_lt
theorem KD{bop:BinOp}(hb:bop= .and\/bop= .or\/bop= .xor):OpT P ⟨dst,.binOp bop t x y ty2,ty,pos,after,g⟩ [(x,.prim (.int k i)),(y,.prim (.int k j))] [] (.prim (.int k (bits bop k i j))) []:=
 BU rfl (λw=>by
  rcases hb with rfl|rfl|rfl
  ·rw[binOp_and,intBits_and];rfl
  ·rw[binOp_or,intBits_or];rfl
  ·rw[binOp_xor,intBits_xor];rfl) (.inl (by rcases hb with rfl|rfl|rfl<;>exact⟨by simp,by simp⟩))
theorem SU(hx:Rd c T x (uA a))(hy:Rd c T y (uA b)):Stp c P ⟨dst,.binOp .and t x y ty2,ty,pos,after,g⟩ T S [(x,uA a),(y,uA b)] [] (uA (a&&&b)) []:=by
 have h:=u64_and_nat a.toNat b.toNat (Gb a) (Gb b);rw[<-UInt64.toNat_and]at h;exact⟨.res (KD (.inl rfl)) h,.cons hx (.cons hy .nil),.nil⟩
theorem G6(hx:Rd c T x (uA a))(hy:Rd c T y (uA b)):Stp c P ⟨dst,.binOp .xor t x y ty2,ty,pos,after,g⟩ T S [(x,uA a),(y,uA b)] [] (uA (a^^^b)) []:=by
 have h:=u64_xor_nat a.toNat b.toNat (Gb a) (Gb b);rw[<-UInt64.toNat_xor]at h;exact⟨.res (KD (.inr (.inr rfl))) h,.cons hx (.cons hy .nil),.nil⟩
theorem PB(n:Int):IntKind.u64.wrap n=n%18446744073709551616:=IntKind.wrap_u64 n
theorem SR(hx:Rd c T x (uA a))(hy:Rd c T y (uA b)):Stp c P ⟨dst,.binOp .sub t x y ty2,ty,pos,after,g⟩ T S [(x,uA a),(y,uA b)] [] (uA (a-b)) []:=by
 have h:IntKind.u64.wrap ((a.toNat:Int)-b.toNat)=(((a-b).toNat:Nat):Int):=by
  have h1:=Gb a;have h2:=Gb b;rw[PB,UInt64.toNat_sub];omega
 exact⟨.res (EF) h,.cons hx (.cons hy .nil),.nil⟩
theorem I4(n:Nat)(hn:n<64)(hx:Rd c T x (uA a))(hy:Rd c T y (.prim (.int k' j)))(hj:j=(n:Int)):Stp c P ⟨dst,.binOp .shl t x y ty2,ty,pos,after,g⟩ T S [(x,uA a),(y,.prim (.int k' j))] [] (uA (a<<<UInt64.ofNat n)) []:=by
 have h:IntKind.u64.wrap ((a.toNat:Int)*2^n)=(((a<<<UInt64.ofNat n).toNat:Nat):Int):=by
  rw[PB,UInt64.toNat_shiftLeft,UInt64.toNat_ofNat',show n%2^64%64=n by omega,Nat.shiftLeft_eq,Int.natCast_emod,Int.natCast_mul,Int.natCast_pow];rfl
 exact⟨.res (OpT.shl hj (by show n<=64;omega)) h,.cons hx (.cons hy .nil),.nil⟩
theorem NQ(n:Nat)(hn:n<64)(hx:Rd c T x (uA a))(hy:Rd c T y (.prim (.int k' j)))(hj:j=(n:Int)):Stp c P ⟨dst,.binOp .shr t x y ty2,ty,pos,after,g⟩ T S [(x,uA a),(y,.prim (.int k' j))] [] (uA (a>>>UInt64.ofNat n)) []:=by
 have h:(a.toNat:Int).fdiv (2^n)=(((a>>>UInt64.ofNat n).toNat:Nat):Int):=by
  rw[UInt64.toNat_shiftRight,UInt64.toNat_ofNat',show n%2^64%64=n by omega,Nat.shiftRight_eq_div_pow,Int.fdiv_eq_ediv_of_nonneg _ (Int.pow_nonneg (by decide)),Int.natCast_ediv,Int.natCast_pow];rfl
 exact⟨.res (OpT.shr hj (by show n<=64;omega)) h,.cons hx (.cons hy .nil),.nil⟩
theorem OpT.convW{t2:TypeId}{k0:IntKind}(h1:P.underlying t=some (.int k0))(h2:P.underlying t2=some (.int k')):OpT P ⟨dst,.convert t t2 x,ty,pos,after,g⟩ [(x,.prim (.int k i))] [] (.prim (.int k' (k'.wrap i))) []:=
 .pure_ λm a hx _=>by
  have e1:=(hx (x,.prim (.int k i)) (by simp)).prim;refine⟨.int k' (k'.wrap i),?_,A3 _ rfl⟩;simp only at e1;simp[execOp,e1,convert,run_underlying h1,run_underlying h2,Conv.intToInt,Sem.run_bind,Sem.run_pure,Result.andThen_ok]
theorem W.convW{t2:TypeId}(k0 k':IntKind)(r:Int)(h1:P.underlying t=some (.int k0))(h2:P.underlying t2=some (.int k'))(hw:k'.wrap i=r)(hx:Rd c T x (.prim (.int k i))):Stp c P ⟨dst,.convert t t2 x,ty,pos,after,g⟩ T S [(x,.prim (.int k i))] [] (.prim (.int k' r)) []:=⟨.res (OpT.convW h1 h2) hw,.cons hx .nil,.nil⟩
theorem Kl{t2:TypeId}(k0:IntKind)(n:Nat)(hi:i=(n:Int))(hn:n<18446744073709551616)(h1:P.underlying t=some (.int k0))(h2:P.underlying t2=some (.int .u64))(hx:Rd c T x (.prim (.int k i))):Stp c P ⟨dst,.convert t t2 x,ty,pos,after,g⟩ T S [(x,.prim (.int k i))] [] (uA (UInt64.ofNat n)) []:=by
 refine W.convW k0 .u64 _ h1 h2 ?_ hx;rw[PB,UInt64.toNat_ofNat',Nat.mod_eq_of_lt (by omega)];omega
theorem SS{t2:TypeId}(k0:IntKind)(hn:a.toNat<9223372036854775808)(h1:P.underlying t=some (.int k0))(h2:P.underlying t2=some (.int .i64))(hx:Rd c T x (uA a)):Stp c P ⟨dst,.convert t t2 x,ty,pos,after,g⟩ T S [(x,uA a)] [] (.prim (.int .i64 ((a.toNat:Nat):Int))) []:=
 W.convW k0 .i64 _ h1 h2 (DM (by omega) (by omega)) hx
end
end
section
mutual
def AV.loose:AV->Bool
 |.prim _=>true
 |.dead=>true
 |.agg cs=>Bi cs
 |.tup vs=>Bi vs
 |.lst o _ _ l=>(o||l.isEmpty)&&Bi l
 |.bx _ a=>AV.loose a
 |.fn _ cap=>Bi cap
 |_=>false
def Bi:List AV->Bool
 |[]=>true
 |a::as=>AV.loose a&&Bi as
end
theorem IL{α:Type}{f:α->AV}(h:∀a,(f a).loose=true)(l:List α):Bi (l.map f)=true:=by
 induction l with
 |nil=>rfl
 |cons a l ih=>rw[List.map_cons,Bi,h a,ih];rfl
section
variable {m m':Mem}
mutual
theorem VC.loose(hw:m'.w=m.w):(a:AV)->{c:List Value}->{bs:List Nat}->a.loose=true->VC m a c bs->VC m' a c bs
 |.prim _,_,_,_,k=>k
 |.dead,_,_,_,k=>k
 |.agg cs,_,_,h,k=>VCs.loose hw cs h k
 |.tup cs,_,_,_,k=>k.elim
 |.opt _ _,_,_,_,k=>k.elim
 |.lst false t sz [],_,_,_,⟨e,A,cap,e1,e2,e3,k⟩=>⟨e,A,cap,e1,e2,e3,λh0=>absurd h0 (by simp)⟩
 |.lst false t sz (a::l),_,_,h,k=>by simp[AV.loose]at h
 |.lst true t sz l,_,_,_,.inl k=>.inl k
 |.lst true t sz l,_,_,h,.inr ⟨g,cap,arr,bs',e1,e2,e3,e4,e5,e6,e7,k⟩=>.inr ⟨g,cap,arr,bs',e1,e2,by rw[hw];exact e3,e4,e5,e6,e7,VCs.loose hw l (by simpa[AV.loose]using h) k⟩
 |.bx t a,_,_,h,⟨g,arr,bs',e1,e2,e3,e4,k⟩=>⟨g,arr,bs',e1,e2,by rw[hw];exact e3,e4,VC.loose hw a (by simpa[AV.loose]using h) k⟩
 |.sl x off len,_,_,h,k=>by simp[AV.loose]at h
 |.ptr x i j,_,_,h,k=>by simp[AV.loose]at h
 |.fp cs,_,_,h,k=>by simp[AV.loose]at h
 |.fn f cap,_,_,h,⟨vs,e,k⟩=>⟨vs,e,VCs.loose hw cap (by simpa[AV.loose]using h) k⟩
 |.mp x,_,_,h,k=>by simp[AV.loose]at h
theorem VCs.loose(hw:m'.w=m.w):(as:List AV)->{c:List Value}->{bs:List Nat}->Bi as=true->VCs m as c bs->VCs m' as c bs
 |[],_,_,_,k=>k
 |a::as,_,_,h,⟨c1,c2,b1,b2,e1,e2,k1,k2⟩=>⟨c1,c2,b1,b2,e1,e2,VC.loose hw a (by simp[Bi]at h;exact h.1) k1,VCs.loose hw as (by simp[Bi]at h;exact h.2) k2⟩
end
theorem KB(hw:m'.w=m.w){a:AV}{v:Value}{bs:List Nat}(hn:ntup a=true)(h:a.loose=true)(k:VV m a v bs):VV m' a v bs:=by
 cases a
 case agg cs=>obtain⟨cells,e,k⟩:=k;exact⟨cells,e,VCs.loose hw cs h k⟩
 case tup cs=>cases hn
 case opt c b=>cases hn
 case dead=>exact k
 all_goals exact VC.loose hw _ h k
theorem VTs.loose(hw:m'.w=m.w):{as:List AV}->{vs:List Value}->{bs:List Nat}->Bi as=true->VTs m as vs bs->VTs m' as vs bs
 |[],_,_,_,k=>k
 |a::as,_,_,h,k=>by
  have ha:=VTs.ntup k;simp only[Bi,Bool.and_eq_true]at h;obtain⟨v,vs',b1,b2,e1,e2,k1,k2⟩:=(BK ha).1 k;exact(BK ha).2 ⟨v,vs',b1,b2,e1,e2,KB hw ha h.1 k1,VTs.loose hw h.2 k2⟩
theorem VV.loose(hw:m'.w=m.w){a:AV}{v:Value}{bs:List Nat}(h:a.loose=true)(k:VV m a v bs):VV m' a v bs:=by
 cases a
 case tup cs=>obtain⟨vs,e,k⟩:=k;exact⟨vs,e,VTs.loose hw h k⟩
 case opt c b=>simp[AV.loose]at h
 all_goals exact KB hw rfl h k
end
def Mem.lent(m:Mem)(Z:Zs):Mem:=⟨m.μ,m.U,m.w,λb=>m.F b\/b∈Z.own⟩
theorem Mem.le_lent(m:Mem)(Z:Zs):m.Le (m.lent Z):=⟨λ_ h=>h,λ_ _ _ h=>h,λb h=>⟨.inl h,rfl⟩⟩
theorem Spec.lendG{P:Program}{f:FuncId}{args args':List AV}{S:List AB}{Q:AV->List AB->Prop}(h:Spec P f args [] Q)(hQ:∀r S',Q r S' ->r.loose=true/\S'=[])
  (hv:∀(m:Mem) (Z:Zs) (Sf:List AB),(∀z∈Z,ORel m z.1.1 z.1.2 z.2)->Z.map (·.1)=S++Sf->∀us,VTs m args' us []->VTs (m.lent Z) args us []):
  Spec P f args' S λr S'=>Q r []/\S'=S:=
 ⟨h.fn,λSf m N Z vals h1 h2 h3=>by
  have G1:Good (m.lent Z) (m.lent Z) N [] []:=by
   refine⟨(λz hz=>by cases hz),by simp[Zs.own],(λb hb=>by simp[Zs.own]at hb),λb hb=>?_,by simp[Zs.keys],(λx hx=>by simp[Zs.keys]at hx),h2.usedN,.refl _,rfl,rfl,rfl,Nat.le_refl _⟩;rcases hb with hb|hb
   ·exact h2.frz b hb
   ·exact(h2.blk b (by simpa using hb)).1
  refine(h.run [] (m.lent Z) N [] vals rfl G1 (hv m Z Sf h2.obj h1 _ h3)).mono ?_;rintro e w' ⟨v,r,S',m2,N',Z',br,rfl,rfl,hm,G2,hr,hq⟩;obtain⟨hl,rfl⟩:=hQ r S' hq;have hZ:Z'=[]:=by simpa using hm
  subst hZ;have hF:∀b,m.F b\/b∈Z.own->m2.F b/\m2.w.heap[b]?=m.w.heap[b]?:=λb hb=>G2.le.F b hb
  have hbr:∀b∈br,b<m2.w.heap.size/\¬m2.F b:=λb hb=>G2.blk b (by simpa[Zs.own]using hb)
  refine⟨v,r,S,⟨m.μ,m.U,m2.w,m.F⟩,N,Z,br,rfl,rfl,h1,?_,VV.loose (m:=m2) (m':=⟨m.μ,m.U,m2.w,m.F⟩) rfl hl hr,hq,rfl⟩;have hle:m.Le ⟨m.μ,m.U,m2.w,m.F⟩:=⟨λ_ h=>h,λ_ _ _ h=>h,λb hb=>⟨hb,(hF b (.inl hb)).2⟩⟩;refine⟨λz hz=>?_,?_,λb hb=>?_,λb hb=>?_,h2.keys,h2.keyN,h2.usedN,hle,G2.os,G2.tape,G2.output,G2.size⟩
  ·refine ORel.mono hle (λe=>?_) (λL hL=>hL) (λb hb=>(hF b (.inr (List.mem_flatMap.2 ⟨z,hz,hb⟩))).2) (h2.obj z hz)
   have:=h2.obj z hz;rw[e]at this;exact this.2
  ·rw[List.nodup_append]
   refine⟨by simpa using h2.own,by simpa[Zs.own]using G2.own,λa ha b hb e=>?_⟩;subst e;exact(hbr a hb).2 (hF a (.inr ha)).1
  ·rcases List.mem_append.1 hb with hb|hb
   ·have:=h2.blk b (by simpa using hb)
    exact⟨Nat.lt_of_lt_of_le this.1 G2.size,this.2⟩
   ·exact⟨(hbr b hb).1,λhf=>(hbr b hb).2 (hF b (.inl hf)).1⟩
  ·exact Nat.lt_of_lt_of_le (h2.frz b hb) G2.size⟩
mutual
inductive Ld(S:List AB):AV->AV->Prop
 |frz {a:AV}:Ld S a a.frz
 |nil {t:TypeId} {sz:Nat}:Ld S (.prim (.slice none 0 0)) (.lst false t sz [])
 |agg {as bs:List AV} (h:Lds S as bs):Ld S (.agg as) (.agg bs)
 |lst {o:Bool} {t:TypeId} {sz:Nat} {l l':List AV} (h:Lds S l l'):Ld S (.lst o t sz l) (.lst false t sz l')
 |sl {X off n p:Nat} {t:TypeId} {sz:Nat} {l l':List AV} (h:At S p (X,.row t sz l)) (hn:off+n<=l.length) (k:Lds S ((l.drop off).take n) l'):Ld S (.sl X off n) (.lst false t sz l')
 |ptr {X p:Nat} {t:TypeId} {sz:Nat} {a b:AV} {cs:List AV} (h:At S p (X,.row t sz [a])) (k:Ld S a b) (e:b.cells=cs):Ld S (.ptr X 0 0) (.fp cs)
inductive Lds(S:List AB):List AV->List AV->Prop
 |nil:Lds S [] []
 |cons {a b:AV} {as bs:List AV} (h:Ld S a b) (k:Lds S as bs):Lds S (a::as) (b::bs)
end
theorem Lds.len{S:List AB}:∀{as bs:List AV},Lds S as bs->bs.length=as.length
 |[],_,h=>by cases h;rfl
 |a::as,_,h=>by cases h with|cons h k=>simp[Lds.len k]
mutual
theorem Ld.width{S:List AB}:∀{a b:AV},Ld S a b->b.width=a.width
 |_,_,.frz=>Dk _
 |_,_,.nil=>rfl
 |_,_,.agg h=>Lds.widths h
 |_,_,.lst _=>rfl
 |_,_,.sl _ _ _=>rfl
 |_,_,.ptr _ _ _=>rfl
theorem Lds.widths{S:List AB}:∀{as bs:List AV},Lds S as bs->AV.widths bs=AV.widths as
 |_,_,.nil=>rfl
 |_,_,.cons h k=>by simp only[AV.widths,Ld.width h,Lds.widths k]
end
theorem Lds.wsz{S:List AB}{sz:Nat}:∀{a b:List AV},Lds S a b->(∀e∈a,e.width=sz)->∀e∈b,e.width=sz
 |_,_,.nil,_,e,he=>by cases he
 |a::as,b::bs,.cons h k,hw,e,he=>by
  rcases List.mem_cons.1 he with rfl|he
  ·rw[Ld.width h];exact hw a (by simp)
  ·exact Lds.wsz k (λx hx=>hw x (by simp[hx])) e he
section
variable {m:Mem}{S Sf:List AB}{Z:Zs}
theorem Nl(hO:∀z∈Z,ORel m z.1.1 z.1.2 z.2)(hm:Z.map (·.1)=S++Sf){p X:Nat}{t:TypeId}{sz:Nat}{l:List AV}(h:At S p (X,.row t sz l)):∃bs,ORel m X (.row t sz l) bs/\∀b∈bs,b∈Z.own:=by
 have hg:=h.get;obtain⟨hp,_⟩:=List.getElem?_eq_some_iff.1 hg;have h2:(Z.map (·.1))[p]?=some (X,.row t sz l):=by rw[hm,List.getElem?_append_left hp];exact hg
 rw[List.getElem?_map]at h2;cases hz:Z[p]? with
 |none=>rw[hz]at h2;cases h2
 |some z=>
  rw[hz]at h2;injection h2 with h2
  have hzm:=List.mem_of_getElem? hz;have:=hO z hzm;have h2:z.1=(X,AO.row t sz l):=h2;rw[h2]at this;exact⟨z.2,this,λb hb=>List.mem_flatMap.2 ⟨z,hzm,hb⟩⟩
mutual
theorem Ld.vc(hO:∀z∈Z,ORel m z.1.1 z.1.2 z.2)(hm:Z.map (·.1)=S++Sf):∀{a b:AV},Ld S a b->∀{c:List Value} {bs:List Nat},(∀x∈bs,x∈Z.own)->VC m a c bs->VC (m.lent Z) b c []
 |_,_,.frz,c,bs,hb,k=>VC.frz (m.le_lent Z) _ (λb hbb=>⟨.inr (hb b hbb),rfl⟩) k
 |_,_,.nil,c,bs,hb,k=>by
  obtain⟨⟨rfl,_⟩,_⟩:=k;exact⟨rfl,none,0,rfl,Nat.le_refl _,(λe he=>by cases he),λh=>absurd h (by simp)⟩
 |_,_,.agg h,c,bs,hb,k=>Lds.vcs hO hm h hb k
 |_,_,.lst (o:=false) (l':=l') h,c,bs,hb,⟨e,A,cap,e1,e2,e3,k⟩=>by
  refine⟨rfl,A,cap,by rw[h.len];exact e1,by rw[h.len];exact e2,h.wsz e3,λh0=>?_⟩;rw[h.len]at h0⊢;obtain⟨b,off,arr,t,r,q1,q2,q3,q4⟩:=k h0;exact⟨b,off,arr,t,r,q1,.inl q2,q3,Lds.vcs hO hm h (by simp) q4⟩
 |_,_,.lst (o:=true) h,c,bs,hb,.inl ⟨e1,e2,e3⟩=>by
  subst e2;cases h;exact⟨rfl,none,0,e1,Nat.le_refl _,(λe he=>by cases he),λh=>absurd h (by simp)⟩
 |_,_,.lst (o:=true) h,c,bs,hb,.inr ⟨g,cap,arr,bs',e1,e2,e3,e4,e5,e6,e7,k⟩=>by
  refine⟨rfl,some ⟨g,0,none⟩,cap,by rw[h.len];exact e1,by rw[h.len];exact e5,h.wsz e7,λh0=>?_⟩;rw[h.len];exact⟨g,0,arr,_,(0,0),rfl,.inr (hb g (by simp[e2])),e3,Lds.vcs hO hm h (λx hx=>hb x (by rw[e2];exact List.mem_cons_of_mem _ hx)) (by rw[List.drop_zero];exact k)⟩
 |_,_,.sl (off:=off) (n:=n) (l:=l) (l':=l') h hn hl,c,bs,hb,⟨_,hU,A,q,e1,hs⟩=>by
  obtain⟨bs2,hR,hb2⟩:=Nl hO hm h;obtain⟨_,L,hL,hsz,hR⟩:=hR;have hfl:l'.length=n:=by rw[hl.len,List.length_take,List.length_drop];omega
  refine⟨rfl,A,q,by rw[hfl];exact e1,?_,?_,λh0=>?_⟩
  ·rcases hs L hL with⟨_,h2,_,h3⟩|⟨_,h2,o,h3,_⟩
   ·omega
   ·injection h3 with h4 h5 h6
    omega
  ·refine hl.wsz λe he=>?_
   rcases hR with⟨_,rfl,_⟩|⟨_,arr,bs',_,_,_,_,_,hw,_⟩
   ·simp at he
   ·exact hw e (List.mem_of_mem_drop (List.mem_of_mem_take he))
  ·rw[hfl]at h0⊢
   rcases hs L hL with⟨_,_,_,h3⟩|⟨h1,h2,o,h3,h4⟩
   ·omega
   ·rcases hR with⟨_,rfl,_⟩|⟨_,arr,bs',rfl,h6,h7,h8,h9,h10,h11⟩
    ·simp at hn;omega
    ·injection h3 with h12 h13 h14
     have ho:=h4 (.inl (by omega));obtain⟨p1,p2,e1,_,k1⟩:=VCs.take h10 h11 (k:=off) (by omega);obtain⟨p3,p4,e2,k2,_⟩:=VCs.take (l:=l.drop off) (λe he=>h10 e (List.mem_of_mem_drop he)) k1 (k:=n) (by rw[List.length_drop];omega);refine⟨L.blk,o,arr,_,(0,0),h12,.inr (hb2 _ (by simp)),h6,?_⟩
     have hc:(arr.toList.drop o).take (n*L.sz)=((arr.toList.take (l.length*L.sz)).drop (off*L.sz)).take (n*L.sz):=by
      rw[ho,List.drop_take,List.take_take,Nat.min_eq_left];rw[<-Nat.sub_mul];exact Nat.mul_le_mul_right _ (by omega)
     subst hsz;rw[hc];exact Lds.vcs hO hm hl (λx hx=>hb2 x (by simp[e1,e2,hx])) k2
 |_,_,.ptr (a:=a) (b:=b) h hl e,c,bs,hb,⟨_,hU,A,e1,hA⟩=>by
  subst e;obtain⟨bs2,hR,hb2⟩:=Nl hO hm h;obtain⟨_,L,hL,hsz,hR⟩:=hR;have hA:=hA L hL;subst hA;rcases hR with⟨_,h5,_⟩|⟨_,arr,bs',rfl,h6,h7,h8,h9,h10,h11⟩
  ·cases h5
  ·have hw:=h10 a (by simp)
   have hv:VC m a (arr.toList.take a.width) bs':=by rw[hw];simpa using VCs.one.1 h11
   have hf:=VC.cells (Ld.vc hO hm hl (λx hx=>hb2 x (by simp[hx])) hv);refine⟨rfl,L.blk,0*L.sz+0,arr,_,(0,0),e1,.inr (hb2 _ (by simp)),h6,?_⟩
   have hl2:AV.widths b.cells=a.width:=by
    rw[<-VCs.len _ hf,List.length_take,Nat.min_eq_left];have:=VC.len _ hv;rw[List.length_take]at this;omega
   rw[hl2];simpa using hf
theorem Lds.vcs(hO:∀z∈Z,ORel m z.1.1 z.1.2 z.2)(hm:Z.map (·.1)=S++Sf):∀{as bs:List AV},Lds S as bs->∀{c:List Value} {bl:List Nat},(∀x∈bl,x∈Z.own)->VCs m as c bl->VCs (m.lent Z) bs c []
 |_,_,.nil,c,bl,hb,⟨e,_⟩=>⟨e,rfl⟩
 |_,_,.cons h k,c,bl,hb,⟨c1,c2,b1,b2,e1,e2,k1,k2⟩=>⟨c1,c2,[],[],e1,rfl,Ld.vc hO hm h (λx hx=>hb x (by simp[e2,hx])) k1,Lds.vcs hO hm k (λx hx=>hb x (by simp[e2,hx])) k2⟩
end
end
theorem Ld.tup{S:List AB}{a b:AV}(h:Ld S a b)(ha:ntup a=true):ntup b=true:=by
 cases h with
 |frz=>cases a<;>first|rfl|cases ha
 |_=>rfl
section
variable {m:Mem}{S Sf:List AB}{Z:Zs}
theorem Ld.vv(hO:∀z∈Z,ORel m z.1.1 z.1.2 z.2)(hm:Z.map (·.1)=S++Sf){a b:AV}(h:Ld S a b){u:Value}(k:VV m a u []):VV (m.lent Z) b u []:=by
 cases h with
 |frz=>exact VV.frz (m.le_lent Z) (by simp) k
 | @nil t sz=>exact Ld.vc hO hm (Ld.nil (S:=S) (t:=t) (sz:=sz)) (bs:=[]) (by simp) k
 |agg h=>obtain⟨cells,e,k⟩:=k;exact⟨cells,e,Lds.vcs hO hm h (by simp) k⟩
 |lst h=>exact Ld.vc hO hm (.lst h) (by simp) k
 |sl h hn hl=>exact Ld.vc hO hm (.sl h hn hl) (by simp) k
 |ptr h hl e=>exact Ld.vc hO hm (.ptr h hl e) (by simp) k
theorem Lds.vts(hO:∀z∈Z,ORel m z.1.1 z.1.2 z.2)(hm:Z.map (·.1)=S++Sf):∀{as bs:List AV},Lds S as bs->∀{us:List Value},VTs m as us []->VTs (m.lent Z) bs us []
 |_,_,.nil,us,k=>k
 |_,_,.cons h hk,us,k=>by
  have ha:=VTs.ntup k;obtain⟨v,vs',b1,b2,e1,e2,k1,k2⟩:=(BK ha).1 k;obtain⟨rfl,rfl⟩:b1=[]/\b2=[]:=by simpa using e2.symm
  exact(BK (h.tup ha)).2 ⟨v,vs',[],[],e1,rfl,h.vv hO hm k1,Lds.vts hO hm hk k2⟩
end
theorem Spec.lend{P:Program}{f:FuncId}{args args':List AV}{S:List AB}{Q:AV->List AB->Prop}(h:Spec P f args [] Q)(hQ:∀r S',Q r S' ->r.loose=true/\S'=[])(k:Lds S args' args):Spec P f args' S λr S'=>Q r []/\S'=S:=
 h.lendG hQ λm Z Sf hO hm us hu=>k.vts hO hm hu
theorem PS.lend{P:Program}{f:FuncId}{args args':List AV}{S:List AB}{r:AV}(h:PS P f args r)(hr:r.loose=true)(k:Lds S args' args):Spec P f args' S λr' S'=>r'=r/\S'=S:=
 (Spec.lend h (λr' S' ⟨e1,e2⟩=>⟨e1▸hr,e2⟩) k).mono λr' S' ⟨⟨e1,_⟩,e2⟩=>⟨e1,e2⟩
def JM:Nat->List AB->List (Nat×AB)
 |_,[]=>[]
 |k,z::l=>(k,z)::JM (k+1) l
theorem Lg:∀(k:Nat) (l:List AB),(JM k l).map (·.2)=l
 |_,[]=>rfl
 |k,z::l=>by rw[JM,List.map_cons,Lg]
theorem IW:∀(k:Nat) (l:List AB),(JM k l).map (·.1)=List.range' k l.length
 |_,[]=>rfl
 |k,z::l=>by rw[JM,List.map_cons,IW,List.length_cons,List.range'_succ]
theorem Qg:∀(A:List AB) (z:AB) (C:List AB),At (A++z::C) A.length z
 |[],z,C=>.here
 |a::A,z,C=>.next (Qg A z C)
theorem Js:∀(A B C:List AB),Gets (A++(B++C)) (JM A.length B)
 |A,[],C=>.nil
 |A,z::B,C=>.cons (Qg A z (B++C)) (by
   have:=Js (A++[z]) B C;rw[List.length_append,List.append_assoc]at this;exact this)
section
variable {P:Program}{ro:Option Nat}{nt:Nat}{ops:Array Oper}{Q:Exit->St->Prop}{rest:List Oper}{T:List (Nat×AV)}{S:List AB}{ty:TypeId}{pos:String}{after:Array Edge}{dst:Option Tmp}{ats:Array TypeId}{f:FuncId}{xs:List (Operand×AV)}{args:List AV}
end
section
variable {P:Program}{ro:Option Nat}{nt:Nat}{ops:Array Oper}{Q:Exit->St->Prop}{rest:List Oper}{T:List (Nat×AV)}{S:List AB}{ty:TypeId}{pos:String}{after:Array Edge}{dst:Option Tmp}{ats:Array TypeId}{f:FuncId}{r v:AV}{nw:List AB}
end
end
section
section
variable {P:Program}{dst:Option Tmp}{ty t ty2:TypeId}{pos:String}{after:Array Edge}{g:Option (Nat×Bool)}{T:List (Nat×AV)}{S:List AB}{c:Option (List Bool)}{x y:Operand}{a b:UInt64}
end
section
variable {P:Program}{ro:Option Nat}{nt:Nat}{ops:Array Oper}{Q:Exit->St->Prop}{rest:List Oper}{T:List (Nat×AV)}{S:List AB}{op:Op}{ty:TypeId}{pos:String}{after:Array Edge}{dst:Option Tmp}
theorem Nd{nt:Nat}{m0:Mem}{a:Act}{w:World}(hd:∀d,dst=some d->d<nt)(h:Rel nt m0 ⟨T,S⟩ a w):Rel nt m0 ⟨AL T dst noA,S⟩ (a.put dst undef) w:=by
 obtain⟨m,N,Z,h1,h2,h3,h4⟩:=h;exact⟨m,N,Z,h1,h2,h3,h4.put hd ⟨rfl,(λh=>by cases h),λ_=>rfl⟩⟩
theorem AOps.goNU{g:Nat}{b b':Bool}{t:Nat}(k:AOps ro P nt ops Q rest ⟨AL T dst noA,S⟩)(ht:(ops[g]?).bind (·.dst)=some t:=by rfl)(hv:AP T t=some (.prim (.bool b')):=by rfl)(hb:b'= !b:=by first|rfl|assumption|(simp only[Bool.not_true,Bool.not_false];assumption))(hd:AK dst nt=true:=by rfl):AOps ro P nt ops Q (⟨dst,op,ty,pos,after,some (g,b)⟩::rest) ⟨T,S⟩:=by
 intro m0 a w hr;refine wpListIn_step λK hK=>?_
 have hy:yielded ops a.tmps g=some !b:=by
  obtain⟨m,N,Z,h1,h2,h3,h4,h5,h6⟩:=hr;obtain⟨u,hu1,hu2⟩:=h6 t _ hv;obtain⟨⟨e,_⟩,_⟩:=hu2;injection e with e
  subst e hb;simp[yielded,ht,hu1]
 rw[if_neg (by simp[Region.wanted,hy])];exact⟨λ_ _=>trivial,hK _ _ (k m0 _ w (Nd (Bf hd) hr))⟩
theorem AOps.goNV{g:Nat}{b:Bool}{t:Nat}(k:AOps ro P nt ops Q rest ⟨AL T dst noA,S⟩)(ht:(ops[g]?).bind (·.dst)=some t:=by rfl)(hv:AP T t=some noA:=by rfl)(hd:AK dst nt=true:=by rfl):AOps ro P nt ops Q (⟨dst,op,ty,pos,after,some (g,b)⟩::rest) ⟨T,S⟩:=by
 intro m0 a w hr;refine wpListIn_step λK hK=>?_
 have hy:yielded ops a.tmps g=none:=by
  obtain⟨m,N,Z,h1,h2,h3,h4,h5,h6⟩:=hr;obtain⟨u,hu1,_,_,hu2⟩:=h6 t _ hv;have hu2:=hu2 rfl;subst hu2;simp[yielded,ht,hu1,undef]
 rw[if_neg (by simp[Region.wanted,hy])];exact⟨λ_ _=>trivial,hK _ _ (k m0 _ w (Nd (Bf hd) hr))⟩
end
end
section
open Go.RowKit Go.Maps Go.WideElems Go.WideMaps Go.ChangeMaps
def Gg:Value->Lit
 |.int q a=>.int q a
 |.bool b=>.bool b
 |.pointer none=>.int .i64 (-1)
 |.pointer (some a)=>.int .i64 a.block
 |_=>.bool false
def CX(P:Program)(e:TypeId)(v:Value):Option (DataW Unit×List MemPlace):=
 match P.underlying e,v with
 |some (.pointer _),.pointer none=>some (.lit (.int .i64 (-1)),[])
 |some (.pointer _),.pointer (some ⟨b,0,none⟩)=>some (.lit (.int .i64 b),[])
 |some (.pointer _),_=>none
 |_,_=>plainElem (H:=Unit) P e v
def PlainV(P:Program)(e:TypeId)(v:Value):Prop:=CX P e v=some (.lit (Gg v),[])
theorem PlainV.int{P:Program}{e:TypeId}{q:IntKind}(he:P.underlying e=some (.int q)){a:Int}(hw:(Lit.int q a).wf=true):PlainV P e (.int q a):=by
 unfold PlainV CX;rw[he];exact plainElem_int he hw
theorem PlainV.bool{P:Program}{e:TypeId}(he:P.underlying e=some .bool)(x:Bool):PlainV P e (.bool x):=by
 unfold PlainV CX;rw[he];exact plainElem_bool he x
theorem PlainV.nil{P:Program}{e te:TypeId}(he:P.underlying e=some (.pointer te)):PlainV P e (.pointer none):=by
 unfold PlainV CX;rw[he];rfl
theorem PlainV.ptr{P:Program}{e te:TypeId}(he:P.underlying e=some (.pointer te))(b:Nat):PlainV P e (.pointer (some ⟨b,0,none⟩)):=by
 unfold PlainV CX;rw[he];rfl
def MapC(P:Program)(e:TypeId)(g:Int->Option Value)(s:Nat)(D:DataW Unit):Prop:=
 s=Maps.size D/\∀x,(Lit.int .i64 x).wf=true->Maps.has D (.int .i64 x)=(g x).isSome/\∀v,g x=some v->PlainV P e v/\∀z,D.atKey (.int .i64 x) z= .lit (Gg v)
def MapF(P:Program)(k e:TypeId)(g:Int->Option Value)(s:Nat)(o:Obj):Prop:=
 ∃es clock D,o= .map es clock/\Fit P k (CX P e) es clock/\es.size<=s/\D= .map ((es.toList.map (rg P k (CX P e))).foldr DataW.insert [])/\MapC P e g s D
theorem MapF.own{P:Program}{k e:TypeId}{g:Int->Option Value}{s b:Nat}{o:Obj}{w:World}(h:MapF P k e g s o)(hb:w.heap[b]?=some o):∃D,w.ownsMap P k (CX P e) b s D/\MapC P e g s D:=by
 obtain⟨es,clock,D,rfl,h1,h2,h3,h4⟩:=h;exact⟨D,⟨es,clock,hb,h1,h2,h3⟩,h4⟩
theorem MapC.of{P:Program}{k e:TypeId}{g:Int->Option Value}{s n b:Nat}{D:DataW Unit}{w:World}(h:w.ownsMap P k (CX P e) b n D)(hc:MapC P e g s D):∃o,w.heap[b]?=some o/\MapF P k e g s o:=by
 obtain⟨es,clock,hb,h1,h2,h3⟩:=h;refine⟨_,hb,es,clock,D,rfl,h1,?_,h3,hc⟩;rw[hc.1,h3];have e1:Maps.size (DataW.map ((es.toList.map (rg P k (CX P e))).foldr DataW.insert []))=es.size:=by simp[Maps.size,length_sorted]
 rw[e1];exact Nat.le_refl _
def DT(g:Int->Option Value)(x:Int)(v:Value):Int->Option Value:=λy=>if y=x then some v else g y
def ES(g:Int->Option Value)(x:Int):Int->Option Value:=λy=>if y=x then none else g y
theorem E6{x y:Int}(h:¬y=x):(Lit.int .i64 y)≠Lit.int .i64 x:=λe=>h (by injection e)
theorem MapC.put{P:Program}{e:TypeId}{g:Int->Option Value}{s:Nat}{D:DataW Unit}(hT:Maps.Tidy D)(h:MapC P e g s D){x:Int}{v:Value}(hk:WideAt.IsKeyLit (.int .i64 x))(hw:(Lit.int .i64 x).wf=true)(hv:PlainV P e v):
  MapC P e (DT g x v) (if(g x).isSome then s else s+1) (D.put (.int .i64 x) (.lit (Gg v))):=by
 obtain⟨h1,h2⟩:=h;refine⟨?_,λy hy=>?_⟩
 ·rw[size_put hT,(h2 x hw).1,h1]
 ·by_cases e:y=x
  ·subst e
   refine⟨by rw[has_put_same hT.isMap hk];simp[DT],λu hu=>?_⟩;simp only[DT,if_true,Option.some.injEq]at hu;subst hu;exact⟨hv,λz=>atKey_put_same hT.isMap hk _ _⟩
  ·refine⟨by rw[has_put_other (E6 e),(h2 y hy).1];simp[DT,e],λu hu=>?_⟩
   simp only[DT,if_neg e]at hu;exact⟨((h2 y hy).2 u hu).1,λz=>by rw[atKey_put_other (E6 e)];exact((h2 y hy).2 u hu).2 z⟩
theorem MapC.del{P:Program}{e:TypeId}{g:Int->Option Value}{s:Nat}{D:DataW Unit}(hT:Maps.Tidy D)(h:MapC P e g s D){x:Int}(hw:(Lit.int .i64 x).wf=true):
  MapC P e (ES g x) (if(g x).isSome then s-1 else s) (D.del (.int .i64 x)):=by
 obtain⟨h1,h2⟩:=h;refine⟨?_,λy hy=>?_⟩
 ·have:=size_del (k:=.int .i64 x) hT
  rw[(h2 x hw).1,<-h1]at this;split<;>rename_i hs<;>simp[hs]at this<;>omega
 ·by_cases e:y=x
  ·subst e
   refine⟨by rw[has_del_same];simp[ES],λu hu=>?_⟩;simp[ES]at hu
  ·refine⟨by rw[has_del_other (E6 e),(h2 y hy).1];simp[ES,e],λu hu=>?_⟩
   simp only[ES,if_neg e]at hu;exact⟨((h2 y hy).2 u hu).1,λz=>by rw[atKey_del_other (E6 e)];exact((h2 y hy).2 u hu).2 z⟩
section
variable {P:Program}{m0 m:Mem}{N X:Nat}{R:Zs}{ex:List Nat}
theorem Hi{w:World}{b:Nat}{o0:Obj}(h:w.heap[b]?=some o0)(o:Obj):(setBlock w b o).heap[b]?=some o:=by
 have hlt:b<w.heap.size:=(Array.getElem?_eq_some_iff.1 h).1;simp[setBlock,hlt]
theorem LB{w:World}{b c:Nat}(o:Obj)(h:c≠b):(setBlock w b o).heap[c]?=w.heap[c]?:=by
 simp only[setBlock];exact Array.getElem?_setIfInBounds_ne (λe=>h e.symm)
theorem GY{bs0:List Nat}{K:Obj->Prop}(G:Good m0 m N (((X,.gone),bs0)::R) ex)(o:Obj)(hK:K o)(m':Mem)
  (hm':m'=⟨λy=>if y=X then some ⟨m.w.heap.size,0,0,false⟩else m.μ y,λy=>m.U y\/y=X,m.w.alloc o,m.F⟩):
  Good m0 m' N (((X,.ob K),[m.w.heap.size])::R) ex/\m.Le m':=by
 subst hm';obtain⟨rfl,hU⟩:=G.obj _ (List.mem_cons_self ..);have hXN:=G.keyN X (by simp[Gh])
 have hle:m.Le ⟨λy=>if y=X then some ⟨m.w.heap.size,0,0,false⟩else m.μ y,λy=>m.U y\/y=X,m.w.alloc o,m.F⟩:=by
  refine⟨λy h=>.inl h,λy L hy hL=>?_,λb hb=>⟨hb,Below.heap_alloc _ _ _ (G.frz b hb)⟩⟩;simp only at hL;split at hL
  ·rename_i e;subst e;exact absurd hy hU
  ·exact hL
 refine⟨?_,hle⟩;have ownex:=G.own;rw[A5,List.nil_append]at ownex;refine Good.swap (zs:=[((X,.gone),[])]) (zs':=[((X,.ob K),[m.w.heap.size])]) G hle (Nat.le_refl _) ?_ ?_ ?_ ?_ ?_ ?_ ?_ ?_ ?_ rfl rfl rfl (by simp)
 ·intro y hy _
  have hne:y≠X:=by intro e;apply hy;simp[Zs.keys,e]
  simp[hne]
 ·intro b hb _ _
  exact Below.heap_alloc _ _ _ hb
 ·intro z hz
  simp only[List.mem_singleton]at hz;subst hz;exact⟨.inr rfl,⟨m.w.heap.size,0,0,false⟩,by simp,rfl,o,heap_alloc_new m.w _,hK⟩
 ·rw[EW]
  refine List.nodup_append.2 ⟨by simp,(List.nodup_append.1 ownex).2.1,λb hb c hc e=>?_⟩;simp only[List.mem_singleton]at hb;have:=(G.blk c (by simp[hc])).1;omega
 ·intro b hb
  rw[EW]at hb⊢;rcases List.mem_append.1 hb with hb|hb
  ·simp only[List.mem_singleton]at hb
   subst hb;exact⟨by simp,λhF=>Nat.lt_irrefl _ (G.frz _ hF),.inr (.inr (Nat.le_refl _))⟩
  ·have:=G.blk b (by simp[hb])
   exact⟨by have:=this.1;simp;omega,this.2,.inr (.inl hb)⟩
 ·intro b hb
  exact⟨by have:=G.frz b hb;simp;omega,.inl hb⟩
 ·simp[Zs.keys]
 ·intro y hy
  simp[Zs.keys]at hy⊢;subst hy;exact⟨hXN,.inl rfl⟩
 ·intro y hy
  simp[Zs.keys];rcases hy with hy|rfl
  ·exact⟨G.usedN y hy,.inl hy⟩
  ·exact⟨hXN,.inr (.inl rfl)⟩
theorem F4{K K':Obj->Prop}{bs:List Nat}{L:Loc}(G:Good m0 m N (((X,.ob K),bs)::R) ex)(hL:m.μ X=some L)(hbs:bs=[L.blk])(o':Obj)(hK:K' o')(m':Mem)(hm':m'={m with w:=setBlock m.w L.blk o'}):
  Good m0 m' N (((X,.ob K'),bs)::R) ex/\m.Le m':=by
 subst hm' hbs;obtain⟨hU,L',hL',hbs',o,hb,hKo⟩:=G.obj _ (List.mem_cons_self ..);have hbk:=G.blk L.blk (by simp[Zs.own]);obtain⟨o0,ho0⟩:∃o0,m.w.heap[L.blk]?=some o0:=⟨_,Array.getElem?_eq_getElem hbk.1⟩;have hle:m.Le {m with w:=setBlock m.w L.blk o'}:=⟨λy h=>h,λ_ _ _ h=>h,λc hc=>⟨hc,LB _ (λe=>by subst e;exact hbk.2 hc)⟩⟩;have own:=G.own;have hsz:(setBlock m.w L.blk o').heap.size=m.w.heap.size:=by simp[setBlock]
 refine⟨Good.swap (zs:=[((X,.ob K),[L.blk])]) (zs':=[((X,.ob K'),[L.blk])]) (R:=R) (ex:=ex) (ex':=ex) G hle (by omega) (λy _ _=>rfl) (λc _ hc _=>LB _ (λe=>by subst e;simp[Zs.own]at hc)) ?_ ?_ ?_ ?_ (by simp[Zs.keys]) ?_ ?_ rfl rfl rfl (Nat.le_of_eq hsz.symm),hle⟩
 ·intro z hz
  simp only[List.mem_singleton]at hz;subst hz;exact⟨hU,L,hL,rfl,o',Hi ho0 _,hK⟩
 ·have hp:(Zs.own (((X,AO.ob K),[L.blk])::R)++ex).Perm (R.own++([L.blk]++ex)):=by
   rw[A5,List.append_assoc];refine List.perm_append_comm.trans ?_;rw[List.append_assoc];exact List.Perm.append_left _ List.perm_append_comm
  have:=(List.nodup_append.1 (hp.nodup_iff.1 own)).2.1;simpa[Zs.own]using this
 ·intro c hc
  simp only[Zs.own,List.flatMap_cons,List.flatMap_nil,List.append_nil,List.mem_append,List.mem_singleton]at hc;have hk:=G.blk c (by simp only[A5,List.mem_append,List.mem_singleton];rcases hc with h|h<;>simp[h]);exact⟨by show c<(setBlock m.w L.blk o').heap.size;rw[hsz];exact hk.1,hk.2,by rcases hc with h|h<;>simp[Zs.own,h]⟩
 ·intro c hc
  exact⟨by show c<(setBlock m.w L.blk o').heap.size;rw[hsz];exact G.frz c hc,.inl hc⟩
 ·intro y hy
  simp only[Zs.keys,List.map_cons,List.map_nil,List.mem_singleton]at hy⊢;subst hy;exact⟨G.keyN y (by simp[Zs.keys]),.inl rfl⟩
 ·intro y hy
  exact⟨G.usedN y hy,.inl hy⟩
variable {o:Oper}{v:AV}{x y z:Operand}{ty ty2 t k e:TypeId}{pos:String}{after:Array Edge}{g:Option (Nat×Bool)}{dst:Option Tmp}{p:Nat}{gf:Int->Option Value}{s:Nat}
theorem Pe(w:World)(P:Program)(k e:TypeId):MapF P k e (λ_=>none) 0 (.map #[] 0):=by
 obtain⟨es,clock,hb,h1,h2,h3⟩:=World.ownsMap_made (H:=Unit) w P k (CX P e);rw[heap_alloc_new]at hb;obtain⟨rfl,rfl⟩:=Obj.map.inj (Option.some.inj hb);exact⟨#[],0,_,rfl,h1,h2,h3,rfl,λx _=>⟨rfl,λv hv=>by cases hv⟩⟩
theorem OpT.makeMap(ht:P.underlying t=some (.map k e)):OpT P ⟨dst,.makeMap t none,ty,pos,after,g⟩ [] [(p,(X,.gone))] (.mp X) [(p,(X,.ob (MapF P k e (λ_=>none) 0)))]:=by
 intro nt m0 T S a w hx hS hd hr;obtain⟨m,N,Z,rfl,h2,h3,h4⟩:=hr;have h2':Z.map (·.1)=S:=h2;have hSp:=hS (p,(X,.gone)) (by simp);rw[<-h2',List.getElem?_map]at hSp;cases hz:Z[p]? with
 |none=>rw[hz]at hSp;cases hSp
 |some z=>
  rw[hz]at hSp;simp only[Option.map_some,Option.some.injEq]at hSp;obtain⟨z1,z2⟩:=z;simp only at hSp;subst hSp;obtain⟨R,hp1,hp2⟩:=BJ hz;obtain⟨G',hle⟩:=GY (h3.perm hp1) (.map #[] 0) (Pe m.w P k e) _ rfl;unfold Oper.wp
  have h5:(execOp a.eval ⟨dst,.makeMap t none,ty,pos,after,g⟩).run P m.w= .ok (.value (.map (some m.w.heap.size))) (m.w.alloc (.map #[] 0)):=by
   simp[execOp,run_makeMap,Sem.run_bind,Result.andThen_ok,Sem.run_pure]
  rw[h5];refine⟨_,N,Z.set p ((X,.ob _),[m.w.heap.size]),rfl,?_,G'.perm (hp2 _).symm,(h4.mono hle).put hd ?_⟩
  ·rw[List.map_set,h2'];rfl
  ·refine⟨rfl,.inr rfl,_,rfl,λL hL=>?_⟩
   simp only[if_true,Option.some.injEq]at hL;subst hL;rfl
theorem CQ{n:Int}(hn: -9223372036854775808<=n/\n<=9223372036854775807):(Lit.int .i64 n).wf=true:=by
 have h1:IntKind.i64.min= -9223372036854775808:=by decide
 have h2:IntKind.i64.max=9223372036854775807:=by decide
 simp[Lit.wf,h1,h2,hn.1,hn.2]
theorem OpT.mapUpd{n:Int}{u:Value}(ht:P.underlying t=some (.map k e))(hk:P.underlying k=some (.int .i64))(hn: -9223372036854775808<=n/\n<=9223372036854775807)(hu:PlainV P e u)(hs:s<maxLen):OpT P ⟨dst,.mapUpdate t x y z,ty,pos,after,g⟩ [(x,.mp X),(y,.prim (.int .i64 n)),(z,.prim u)] [(p,(X,.ob (MapF P k e gf s)))] .dead [(p,(X,.ob (MapF P k e (DT gf n u) (if(gf n).isSome then s else s+1))))]:=by
 intro nt m0 T S a w hx hS hd hr;obtain⟨m,N,Z,rfl,h2,h3,h4⟩:=hr;have h2':Z.map (·.1)=S:=h2;have hxa:VV m (.mp X) (a.eval x) []:=h4.ev (hx (x,.mp X) (by simp));have hya:=(h4.ev (hx (y,.prim (.int .i64 n)) (by simp))).prim;have hza:=(h4.ev (hx (z,.prim u) (by simp))).prim;have hSp:=hS (p,(X,.ob (MapF P k e gf s))) (by simp);rw[<-h2',List.getElem?_map]at hSp;cases hz:Z[p]? with
 |none=>rw[hz]at hSp;cases hSp
 |some z1=>
  rw[hz]at hSp;simp only[Option.map_some,Option.some.injEq]at hSp;obtain⟨z1,bs⟩:=z1;simp only at hSp;subst hSp;obtain⟨R,hp1,hp2⟩:=BJ hz;have G:=h3.perm hp1;obtain⟨hU,L,hL,hbs,o,hb,hKo⟩:=G.obj _ (List.mem_cons_self ..);obtain⟨_,_,A,hA,hA2⟩:=hxa;simp only[List.cons.injEq,and_true]at hA;rw[hA2 L hL]at hA;obtain⟨D,hown,hC⟩:=hKo.own hb;have K:=int_keyed (P:=P) hk;have hwf:(Lit.int .i64 n).wf=true:=CQ hn;have hkey:=keyOf_int_mk hk hwf;obtain⟨w',hrun,hown',hturn⟩:=hown.store K ht hs hkey hu;obtain⟨es,clock,es',clock',hb0,rfl⟩:=hturn;obtain⟨o',ho',hF'⟩:=MapC.of hown' (hC.put (hown.tidy K) (K.key hkey) hwf hu);rw[Hi hb0]at ho';obtain rfl:=Option.some.inj ho';obtain⟨G',hle⟩:=F4 G hL hbs _ hF' _ rfl;unfold Oper.wp
  have h5:(execOp a.eval ⟨dst,.mapUpdate t x y z,ty,pos,after,g⟩).run P m.w= .ok .skip (setBlock m.w L.blk (.map es' clock')):=by
   simp[execOp,hA,hya,hza,hrun,Sem.run_bind,Result.andThen_ok,Sem.run_pure]
  rw[h5];refine⟨_,N,Z.set p ((X,.ob _),bs),rfl,?_,G'.perm (hp2 _).symm,(h4.mono hle).put hd ?_⟩
  ·rw[List.map_set,h2'];rfl
  ·exact rfl
theorem Pa{m:Mem}{x0:Operand}{a:Act}(hx:VV m (.mp X) (a.eval x0) []){bs:List Nat}(hO:ORel m X (.ob (MapF P k e gf s)) bs):∃b D,a.eval x0= .map (some b)/\m.w.ownsMap P k (CX P e) b s D/\MapC P e gf s D:=by
 obtain⟨hU,L,hL,hbs,o,hb,hKo⟩:=hO;obtain⟨_,_,A,hA,hA2⟩:=hx;simp only[List.cons.injEq,and_true]at hA;rw[hA2 L hL]at hA;obtain⟨D,hown,hC⟩:=hKo.own hb;exact⟨L.blk,D,hA,hown,hC⟩
theorem Lv{v:Value}(hp:∀te,P.underlying e≠some (.pointer te)):CX P e v=plainElem (H:=Unit) P e v:=by
 unfold CX;split
 ·exact absurd ‹_› (hp _)
 ·exact absurd ‹_› (hp _)
 ·exact absurd ‹_› (hp _)
 ·rfl
theorem Di{v:Value}{u:Value}{ps:List MemPlace}(h:CX P e v=some (.lit (Gg u),ps))(hu:PlainV P e u):v=u:=by
 unfold PlainV at hu;by_cases hp:∃te,P.underlying e=some (.pointer te)
 ·obtain⟨te,hp⟩:=hp
  unfold CX at h hu;rw[hp]at h hu;split at hu
  ·split at h
   ·rfl
   ·simp only[Gg,Option.some.injEq,Prod.mk.injEq,DataW.lit.injEq,Lit.int.injEq]at h
    omega
   ·cases h
   ·simp_all
  ·split at h
   ·simp only[Gg,Option.some.injEq,Prod.mk.injEq,DataW.lit.injEq,Lit.int.injEq]at h
    omega
   ·simp only[Gg,Option.some.injEq,Prod.mk.injEq,DataW.lit.injEq,Lit.int.injEq]at h
    obtain⟨⟨_,h⟩,_⟩:=h;have h:_=_:=Int.ofNat.inj h;subst h;rfl
   ·cases h
   ·simp_all
  ·cases hu
  ·simp_all
 ·have hp':∀te,P.underlying e≠some (.pointer te):=λte e=>hp ⟨te,e⟩
  rw[Lv hp']at h hu;unfold plainElem at h hu;generalize P.underlying e=d at h hu;split at hu
  ·split at h
   ·simp only[Gg,Option.some.injEq,Prod.mk.injEq,DataW.lit.injEq,Lit.bool.injEq]at h
    rw[h.1]
   ·simp_all
   ·simp_all
   ·cases h
  ·split at h
   ·simp_all
   ·split at h
    ·split at hu
     ·rename_i h1 h2
      simp only[Gg,Option.some.injEq,Prod.mk.injEq,DataW.lit.injEq,Lit.int.injEq]at h
      simp_all
     ·cases hu
    ·cases h
   ·simp_all
   ·cases h
  ·split at hu
   ·simp[Gg]at hu
   ·cases hu
  ·cases hu
theorem OpT.lookup1{n:Int}{z0:Value}(ht:P.underlying t=some (.map k e))(hk:P.underlying k=some (.int .i64))(hz:∀w,(zeroValue e).run P w= .ok z0 w)(h0:PlainV P e z0)(hn: -9223372036854775808<=n/\n<=9223372036854775807)(hone:((gf n).getD z0).oneCell'=true):
  OpT P ⟨dst,.lookup t x y false,ty,pos,after,g⟩ [(x,.mp X),(y,.prim (.int .i64 n))] [(p,(X,.ob (MapF P k e gf s)))] (.prim ((gf n).getD z0)) []:=
 .pure_ λm a hx hS=>by
  obtain⟨bs,hO⟩:=hS (p,(X,.ob (MapF P k e gf s))) (by simp);obtain⟨b,D,hA,hown,hC⟩:=Pa (hx (x,.mp X) (by simp)) hO;have hya:=(hx (y,.prim (.int .i64 n)) (by simp)).prim;have K:=int_keyed (P:=P) hk;have hwf:=CQ hn;have hkey:=keyOf_int_mk hk hwf;obtain⟨v,ps,hrun,hv⟩:=hown.lookup K ht (hz m.w) h0 hkey
  have hval:v=(gf n).getD z0:=by
   obtain⟨h1,h2⟩:=hC.2 n hwf;cases hg:gf n with
   |none=>
    rw[hg]at h1;rw[atKey_of_not_has (by simpa using h1)]at hv;exact Di hv h0
   |some u=>
    obtain⟨h3,h4⟩:=h2 u hg;rw[h4]at hv;exact Di hv h3
  subst hval;exact⟨_,by simp only at hya hA;simp[execOp,hA,hya,hrun,Sem.run_bind,Result.andThen_ok,Sem.run_pure],A3 _ hone⟩
theorem OpT.lookup2{n:Int}{z0:Value}(ht:P.underlying t=some (.map k e))(hk:P.underlying k=some (.int .i64))(hz:∀w,(zeroValue e).run P w= .ok z0 w)(h0:PlainV P e z0)(hn: -9223372036854775808<=n/\n<=9223372036854775807)(hone:((gf n).getD z0).oneCell'=true):
  OpT P ⟨dst,.lookup t x y true,ty,pos,after,g⟩ [(x,.mp X),(y,.prim (.int .i64 n))] [(p,(X,.ob (MapF P k e gf s)))] (.tup [.prim ((gf n).getD z0),.prim (.bool (gf n).isSome)]) []:=
 .pure_ λm a hx hS=>by
  obtain⟨bs,hO⟩:=hS (p,(X,.ob (MapF P k e gf s))) (by simp);obtain⟨b,D,hA,hown,hC⟩:=Pa (hx (x,.mp X) (by simp)) hO;have hya:=(hx (y,.prim (.int .i64 n)) (by simp)).prim;have K:=int_keyed (P:=P) hk;have hwf:=CQ hn;have hkey:=keyOf_int_mk hk hwf;obtain⟨v,ps,hrun,hv⟩:=hown.look_ok K ht (hz m.w) h0 hkey;obtain⟨h1,h2⟩:=hC.2 n hwf
  have hval:v=(gf n).getD z0:=by
   cases hg:gf n with
   |none=>
    rw[hg]at h1;rw[atKey_of_not_has (by simpa using h1)]at hv;exact Di hv h0
   |some u=>
    obtain⟨h3,h4⟩:=h2 u hg;rw[h4]at hv;exact Di hv h3
  subst hval;rw[h1]at hrun;exact⟨_,by simp only at hya hA;simp[execOp,hA,hya,hrun,Sem.run_bind,Result.andThen_ok,Sem.run_pure],⟨_,rfl,(BK rfl).2 ⟨_,_,[],[],rfl,rfl,A3 _ hone,(BK rfl).2 ⟨_,_,[],[],rfl,rfl,A3 _,⟨rfl,rfl⟩⟩⟩⟩⟩
theorem OpT.mapDel{ats:Array TypeId}{n:Int}(ht:P.underlying t=some (.map k e))(hk:P.underlying k=some (.int .i64))(hn: -9223372036854775808<=n/\n<=9223372036854775807):OpT P ⟨dst,.call ⟨.builtin .delete,#[x,y],#[t,k]⟩,ty,pos,after,g⟩ [(x,.mp X),(y,.prim (.int .i64 n))] [(p,(X,.ob (MapF P k e gf s)))] .dead [(p,(X,.ob (MapF P k e (ES gf n) (if(gf n).isSome then s-1 else s))))]:=by
 intro nt m0 T S a w hx hS hd hr;obtain⟨m,N,Z,rfl,h2,h3,h4⟩:=hr;have h2':Z.map (·.1)=S:=h2;have hxa:VV m (.mp X) (a.eval x) []:=h4.ev (hx (x,.mp X) (by simp));have hya:=(h4.ev (hx (y,.prim (.int .i64 n)) (by simp))).prim;have hSp:=hS (p,(X,.ob (MapF P k e gf s))) (by simp);rw[<-h2',List.getElem?_map]at hSp;cases hz:Z[p]? with
 |none=>rw[hz]at hSp;cases hSp
 |some z1=>
  rw[hz]at hSp;simp only[Option.map_some,Option.some.injEq]at hSp;obtain⟨z1,bs⟩:=z1;simp only at hSp;subst hSp;obtain⟨R,hp1,hp2⟩:=BJ hz;have G:=h3.perm hp1;obtain⟨hU,L,hL,hbs,o,hb,hKo⟩:=G.obj _ (List.mem_cons_self ..);obtain⟨_,_,A,hA,hA2⟩:=hxa;simp only[List.cons.injEq,and_true]at hA;rw[hA2 L hL]at hA;obtain⟨D,hown,hC⟩:=hKo.own hb;have K:=int_keyed (P:=P) hk;have hwf:(Lit.int .i64 n).wf=true:=CQ hn;have hkey:=keyOf_int_mk hk hwf;obtain⟨w',hrun,hown',hturn⟩:=hown.drop K ht hkey ty;obtain⟨es,clock,es',clock',hb0,rfl⟩:=hturn;obtain⟨o',ho',hF'⟩:=MapC.of hown' (hC.del (hown.tidy K) hwf);rw[Hi hb0]at ho';obtain rfl:=Option.some.inj ho';obtain⟨G',hle⟩:=F4 G hL hbs _ hF' _ rfl;unfold Oper.wp
  have h5:(execOp a.eval ⟨dst,.call ⟨.builtin .delete,#[x,y],#[t,k]⟩,ty,pos,after,g⟩).run P m.w= .ok (.value (.tuple #[])) (setBlock m.w L.blk (.map es' clock')):=by
   rw[A8];simp[builtin,hA,hya,hrun,Sem.run_bind,Result.andThen_ok,Sem.run_pure]
  rw[h5];refine⟨_,N,Z.set p ((X,.ob _),bs),rfl,?_,G'.perm (hp2 _).symm,(h4.mono hle).put hd ?_⟩
  ·rw[List.map_set,h2'];rfl
  ·exact rfl
end
class TMap(P:Program)(t:TypeId)(k e:outParam TypeId)(z0:outParam Value):Prop where
 h:P.underlying t=some (.map k e)
 hk:P.underlying k=some (.int .i64)
 hz:∀w,(zeroValue e).run P w= .ok z0 w
 h0:PlainV P e z0
section
variable {ro:Option Nat}{P:Program}{nt:Nat}{ops:Array Oper}{Q:Exit->St->Prop}{rest:List Oper}{T:List (Nat×AV)}{S:List AB}{ty t k e:TypeId}{pos:String}{after:Array Edge}{dst:Option Tmp}{c:Option (List Bool)}{g:Option (Nat×Bool)}{x y z:Operand}{X p:Nat}{gf:Int->Option Value}{s:Nat}{z0:Value}
theorem JC[TMap P t k e z0](kk:∀X,AOps ro P nt ops Q rest ⟨AL T dst (.mp X),(X,.ob (MapF P k e (λ_=>none) 0))::S⟩)(hd:AK dst nt=true:=by rfl):AOps ro P nt ops Q (⟨dst,.makeMap t none,ty,pos,after,none⟩::rest) ⟨T,S⟩:=
 AOps.rs λX=>AOps.step (o:=⟨dst,.makeMap t none,ty,pos,after,none⟩) (xs:=[]) (rS:=[(0,(X,.gone))]) rfl (OpT.makeMap (TMap.h (z0:=z0))) .nil (.cons .here .nil) hd (kk X)
theorem D1{st:St}(kk:AOps ro P nt ops Q (⟨dst,.makeMap t none,ty,pos,after,g⟩::rest) st):AOps ro P nt ops Q (⟨dst,.makeMap t none,ty,pos,after,g⟩::rest) st:=kk
theorem W.mapUpd{n:Int}{u:Value}[TMap P t k e z0](hu:PlainV P e u)(hn: -9223372036854775808<=n/\n<=9223372036854775807)(hs:s<maxLen)(hx:Rd c T x (.mp X))(hy:Rd c T y (.prim (.int .i64 n)))(hz:Rd c T z (.prim u))(hSp:At S p (X,.ob (MapF P k e gf s))):
  Stp c P ⟨dst,.mapUpdate t x y z,ty,pos,after,g⟩ T S [(x,.mp X),(y,.prim (.int .i64 n)),(z,.prim u)] [(p,(X,.ob (MapF P k e gf s)))] .dead [(p,(X,.ob (MapF P k e (DT gf n u) (if(gf n).isSome then s else s+1))))]:=
 ⟨.mapUpd (TMap.h (z0:=z0)) (TMap.hk (t:=t) (z0:=z0)) hn hu hs,.cons hx (.cons hy (.cons hz .nil)),.cons hSp .nil⟩
theorem Ef{n:Int}(v:Value)[TMap P t k e z0](hv:(gf n).getD z0=v)(hn: -9223372036854775808<=n/\n<=9223372036854775807)(hx:Rd c T x (.mp X))(hy:Rd c T y (.prim (.int .i64 n)))(hSp:At S p (X,.ob (MapF P k e gf s)))(hone:v.oneCell'=true:=by rfl):
  Stp c P ⟨dst,.lookup t x y false,ty,pos,after,g⟩ T S [(x,.mp X),(y,.prim (.int .i64 n))] [(p,(X,.ob (MapF P k e gf s)))] (.prim v) []:=by
 subst hv;exact⟨.lookup1 (TMap.h (z0:=z0)) (TMap.hk (t:=t) (z0:=z0)) (TMap.hz (t:=t)) (TMap.h0 (t:=t)) hn hone,.cons hx (.cons hy .nil),.cons hSp .nil⟩
theorem DP{n:Int}(v:Value)(b:Bool)[TMap P t k e z0](hv:(gf n).getD z0=v)(hb:(gf n).isSome=b)(hn: -9223372036854775808<=n/\n<=9223372036854775807)(hx:Rd c T x (.mp X))(hy:Rd c T y (.prim (.int .i64 n)))(hSp:At S p (X,.ob (MapF P k e gf s)))(hone:v.oneCell'=true:=by rfl):
  Stp c P ⟨dst,.lookup t x y true,ty,pos,after,g⟩ T S [(x,.mp X),(y,.prim (.int .i64 n))] [(p,(X,.ob (MapF P k e gf s)))] (.tup [.prim v,.prim (.bool b)]) []:=by
 subst hv hb;exact⟨.lookup2 (TMap.h (z0:=z0)) (TMap.hk (t:=t) (z0:=z0)) (TMap.hz (t:=t)) (TMap.h0 (t:=t)) hn hone,.cons hx (.cons hy .nil),.cons hSp .nil⟩
theorem W.mapDel{n:Int}[TMap P t k e z0](hn: -9223372036854775808<=n/\n<=9223372036854775807)(hx:Rd c T x (.mp X))(hy:Rd c T y (.prim (.int .i64 n)))(hSp:At S p (X,.ob (MapF P k e gf s))):
  Stp c P ⟨dst,.call ⟨.builtin .delete,#[x,y],#[t,k]⟩,ty,pos,after,g⟩ T S [(x,.mp X),(y,.prim (.int .i64 n))] [(p,(X,.ob (MapF P k e gf s)))] .dead [(p,(X,.ob (MapF P k e (ES gf n) (if(gf n).isSome then s-1 else s))))]:=
 ⟨.mapDel (ats:=#[]) (TMap.h (z0:=z0)) (TMap.hk (t:=t) (z0:=z0)) hn,.cons hx (.cons hy .nil),.cons hSp .nil⟩
end
end
section
variable {ro:Option Nat}
section
variable {P:Program}{nt:Nat}{ops:Array Oper}{Q:Exit->St->Prop}{rest:List Oper}{T:List (Nat×AV)}{S:List AB}{f:FuncId}{x0 x1 x2:Operand}{v0 v1 v2 r v:AV}{dst:Option Tmp}{ats:Array TypeId}{ty:TypeId}{pos:String}{after:Array Edge}{p1 p2:Nat}{z1 z2:AB}{y1 y2:Nat->AB}{Sin Sout news:List AB}{rS wS:List (Nat×AB)}
end
end
section
open Go.RowKit
variable {ro:Option Nat}
theorem Rel.perm{nt:Nat}{m0:Mem}{T:List (Nat×AV)}{S S':List AB}{a:Act}{w:World}(h:S.Perm S')(k:Rel nt m0 ⟨T,S⟩ a w):Rel nt m0 ⟨T,S'⟩ a w:=by
 obtain⟨m,N,Z,h1,h2,h3,h4⟩:=k;obtain⟨Z',p,e⟩:=Dj (λz:AB×List Nat=>z.1) h h2;exact⟨m,N,Z',h1,e,h3.perm p,h4⟩
section
variable {P:Program}{nt:Nat}{ops:Array Oper}{Q:Exit->St->Prop}{rest:List Oper}{T:List (Nat×AV)}{S S':List AB}
theorem AOps.perm(h:S.Perm S')(k:AOps ro P nt ops Q rest ⟨T,S'⟩):AOps ro P nt ops Q rest ⟨T,S⟩:=λm0 a w hr=>k m0 a w (hr.perm h)
theorem AWP.perm{c:Code}(h:S.Perm S')(k:AWP ro P nt c Q ⟨T,S'⟩):AWP ro P nt c Q ⟨T,S⟩:=λm0 a w hr=>k m0 a w (hr.perm h)
end
section
variable {P:Program}{nt:Nat}{ops:Array Oper}{Q:Exit->St->Prop}{rest:List Oper}{T:List (Nat×AV)}{S:List AB}{p:Nat}{o:AO}
theorem AWP.front{c:Code}(X:Nat)(k:AWP ro P nt c Q ⟨T,(X,o)::S.eraseIdx p⟩)(hS:At S p (X,o):=by exact At.f):AWP ro P nt c Q ⟨T,S⟩:=.perm (EV hS.get) k
theorem AOps.front(X:Nat)(k:AOps ro P nt ops Q rest ⟨T,(X,o)::S.eraseIdx p⟩)(hS:At S p (X,o):=by exact At.f):AOps ro P nt ops Q rest ⟨T,S⟩:=.perm (EV hS.get) k
end
theorem R7{S:List AB}{p:Nat}{e:AB}(h:At S p e):S.set p e=S:=by
 obtain⟨h1,h2⟩:=List.getElem?_eq_some_iff.1 h.get;rw[<-h2];exact List.set_getElem_self h1
section
variable {P:Program}{nt:Nat}{ops:Array Oper}{Q:Exit->St->Prop}{rest:List Oper}{T:List (Nat×AV)}{S:List AB}{p:Nat}{t:TypeId}{sz:Nat}{l l':List AV}
theorem KF{c:Code}(X:Nat)(h:l=l')(k:AWP ro P nt c Q ⟨T,S.set p (X,.row t sz l')⟩)(hS:At S p (X,.row t sz l):=by exact At.f):AWP ro P nt c Q ⟨T,S⟩:=by
 subst h;rw[R7 hS]at k;exact k
end
theorem BZ{α:Type}(A B C:List α):(A++(B++C)).Perm (B++(A++C)):=by
 rw[<-List.append_assoc,<-List.append_assoc];exact List.Perm.append_right _ List.perm_append_comm
theorem Spec.perm{P:Program}{f:FuncId}{args:List AV}{S S2:List AB}{Q Q2:AV->List AB->Prop}(h:Spec P f args S Q)(hp:S2.Perm S)(hq:∀r S',Q r S' ->∃S2',S'.Perm S2' /\Q2 r S2'):Spec P f args S2 Q2:=
 ⟨h.fn,λSf m N Z vals hZ G hv=>by
  obtain⟨Z1,p1,e1⟩:=Dj (λz:AB×List Nat=>z.1) (hp.append_right Sf) hZ;refine(h.run Sf m N Z1 vals e1 (G.perm p1) hv).mono ?_;rintro e w' ⟨v,r,S',m',N',Z',br,he,hw,hm,G',hvv,hQ⟩;obtain⟨S2',p2,hQ2⟩:=hq r S' hQ;obtain⟨Z2,p3,e3⟩:=Dj (λz:AB×List Nat=>z.1) (p2.append_right Sf) hm;exact⟨v,r,S2',m',N',Z2,br,he,hw,e3,G'.perm p3,hvv,hQ2⟩⟩
theorem Spec.beside{P:Program}{f:FuncId}{args:List AV}{S:List AB}{Q:AV->List AB->Prop}(h:Spec P f args S Q)(R:List AB):Spec P f args (S++R) λr S'=>∃S1,S'=S1++R/\Q r S1:=
 ⟨h.fn,λSf m N Z vals hZ G hv=>by
  refine(h.run (R++Sf) m N Z vals (by rw[hZ,List.append_assoc]) G hv).mono ?_;rintro e w' ⟨v,r,S',m',N',Z',br,he,hw,hm,G',hvv,hQ⟩;exact⟨v,r,S'++R,m',N',Z',br,he,hw,by rw[hm,List.append_assoc],G',hvv,S',rfl,hQ⟩⟩
section
variable {P:Program}{dst:Option Tmp}{f:FuncId}{β:Type}{C:β->Prop}{rr vv:β->AV}{Sin:List AB}{So nw:β->List AB}{gs L R:List AB}{nt:Nat}{T:List (Nat×AV)}{S:List AB}
theorem J7{m0:Mem}{a:Act}{args:List AV}{vals:Array Value}(h:Spec P f args Sin λr' S'=>∃b,C b/\r'=rr b/\S'=So b)(hT:∀b,TR (rr b) (vv b) (nw b))(hgs:∀b,BV (nw b)=gs)(hp:S.Perm (Sin++(gs++(L++R))))
  (hd:∀d,dst=some d->d<nt) {m:Mem} {N:Nat} {Z:Zs} (h2:Z.map (·.1)=S) (h3:Good m0 m N Z []) (h4:TRel m0 m nt T a) (hv:VTs m args vals.toList []):
  Calls P f vals m.w λe w'=>∃u,e= .returned u/\∃b,C b/\Rel nt m0 ⟨AL T dst (vv b),nw b++(L++(So b++R))⟩ (a.put dst u) w':=by
 obtain⟨Z1,hz1,hz2⟩:=Dj (λz:AB×List Nat=>z.1) hp h2;refine(h.run _ m N Z1 vals hz2 (h3.perm hz1).self hv).mono ?_;rintro e w' ⟨u,r',S',m',N',Z',br,rfl,rfl,hm,G',hu,b,hb,rfl,rfl⟩;obtain⟨Zo,Zr,rfl,ho,hzr⟩:=Aw hm;obtain⟨Zg,Zf,rfl,hg,hf⟩:=Aw hzr;obtain⟨Zl,Zq,rfl,hl,hq⟩:=Aw hf;have G1:=h3.perm hz1 |>.after G'
 have G2:Good m0 m' N' (Zg++(Zo++(Zl++Zq))) (br++[]):=by
  have:=G1.perm (BZ Zo Zg (Zl++Zq));simpa using this
 obtain⟨m2,Zn,hw2,hn,G3,hle,hv2⟩:=(hT b).sound (hg.trans (hgs b).symm) G2 hu;have G4:=G3.perm ((BZ Zo Zl Zq).append_left Zn);refine⟨u,rfl,b,hb,m2,N',Zn++(Zl++(Zo++Zq)),hw2,?_,G4,((h4.mono G'.le).mono hle).put hd hv2⟩;simp[ho,hn,hl,hq]
variable {ops:Array Oper}{Q:Exit->St->Prop}{rest:List Oper}{ats:Array TypeId}{ty:TypeId}{pos:String}{after:Array Edge}{xs:List (Operand×AV)}
theorem CA(h:Spec P f (xs.map (·.2)) Sin λr' S'=>∃b,C b/\r'=rr b/\S'=So b)(hT:∀b,TR (rr b) (vv b) (nw b))(hgs:∀b,BV (nw b)=gs)(hp:S.Perm (Sin++(gs++(L++R))))(hx:Evs T xs)(ht:Aa xs=true)(hd:AK dst nt=true)
  (k:∀b,C b->AOps ro P nt ops Q rest ⟨AL T dst (vv b),nw b++(L++(So b++R))⟩):AOps ro P nt ops Q (⟨dst,.call ⟨.value (.func f),(xs.map (·.1)).toArray,ats⟩,ty,pos,after,none⟩::rest) ⟨T,S⟩:=by
 rintro m0 a w ⟨m,N,Z,rfl,h2,h3,h4⟩;refine wpListIn_plain rfl λK hK=>F5 (C:=C) (sE:=λb=>⟨AL T dst (vv b),nw b++(L++(So b++R))⟩) (by simp) (E4 (λ_=>rfl) h.fn (J7 h hT hgs hp (Bf hd) h2 h3 h4 ?_)) λa' w' ⟨b,hb,hrel⟩=>hK _ _ (k b hb m0 _ _ hrel)
 have:=Dm (B9 ht) λq hq=>h4.ev (hx.all q hq)
 simpa[Function.comp_def]using this
theorem HW{x:Operand}{cap:List AV}(h:Spec P f (xs.map (·.2)++cap) Sin λr' S'=>∃b,C b/\r'=rr b/\S'=So b)(hT:∀b,TR (rr b) (vv b) (nw b))(hgs:∀b,BV (nw b)=gs)(hp:S.Perm (Sin++(gs++(L++R))))(hf:ev T x=some (.fn f cap))(hs:Bm cap=true)(hx:Evs T xs)(ht:Aa xs=true)(hd:AK dst nt=true)
  (k:∀b,C b->AOps ro P nt ops Q rest ⟨AL T dst (vv b),nw b++(L++(So b++R))⟩):AOps ro P nt ops Q (⟨dst,.call ⟨.value x,(xs.map (·.1)).toArray,ats⟩,ty,pos,after,none⟩::rest) ⟨T,S⟩:=by
 rintro m0 a w ⟨m,N,Z,rfl,h2,h3,h4⟩;obtain⟨vs,e1,h5⟩:=h4.ev hf;injection e1 with e1
 refine wpListIn_plain rfl λK hK=>F5 (C:=C) (sE:=λb=>⟨AL T dst (vv b),nw b++(L++(So b++R))⟩) (by simp) (Hs e1 h.fn (J7 h hT hgs hp (Bf hd) h2 h3 h4 ?_)) λa' w' ⟨b,hb,hrel⟩=>hK _ _ (k b hb m0 _ _ hrel)
 have:=Hh (Dm (B9 ht) λq hq=>h4.ev (hx.all q hq)) (F6 hs h5);simpa[Function.comp_def]using this
end
section
variable {nt:Nat}{st:St}{d p q X Y:Nat}{u:Value}{v:AV}{K:AV->Value->Prop}{t:TypeId}{sz:Nat}{l:List AV}
theorem St.asPtr(hd:AP st.T d=some (.prim u))(hq:At st.S q (Y,.tv K))(hK:K v u):Da nt st λst'=>st'=⟨(d,v)::st.T,st.S⟩:=by
 rintro m0 a w ⟨m,N,Z,rfl,h2,h3,h4⟩;obtain⟨bs,hz⟩:=hq.z h2;obtain⟨_,_,hO⟩:=h3.obj _ (List.mem_of_getElem? hz);refine⟨⟨(d,v)::st.T,st.S⟩,⟨m,N,Z,rfl,h2,h3,h4.1,h4.2.1,λe v' he=>?_⟩,rfl⟩;rw[AT]at he;split at he
 ·rename_i e';subst e'
  injection he with he;subst he
  obtain⟨u',h5,h6⟩:=h4.2.2 _ _ hd;exact⟨u',h5,by rw[h6.prim];exact hO _ _ hK⟩
 ·exact h4.2.2 e v' he
theorem St.namePtr(hd:AP st.T d=some (.ptr X 0 0))(hS:At st.S p (X,.row t sz l))(hq:At st.S q (Y,.tv K)):Da nt st λst'=>∃b:Nat,st'=⟨(d,.prim (.pointer (some ⟨b,0,none⟩)))::st.T,st.S.set q (Y,.tv λv u=>K v u\/(v= .ptr X 0 0/\u= .pointer (some ⟨b,0,none⟩)))⟩:=by
 rintro m0 a w ⟨m,N,Z,rfl,h2,h3,h4⟩;obtain⟨bs,hz⟩:=hq.z h2;obtain⟨bs1,hz1⟩:=hS.z h2;obtain⟨_,L,hL,_⟩:=h3.obj _ (List.mem_of_getElem? hz1);obtain⟨hbs,hU,hO⟩:=h3.obj _ (List.mem_of_getElem? hz);simp only at hbs hU hO;subst hbs;obtain⟨u',h5,h6⟩:=h4.2.2 _ _ hd;have h6':=h6;obtain⟨_,_,B,hB,hB2⟩:=h6;rw[hB2 L hL]at hB;injection hB with hB
 have hu:u'= .pointer (some ⟨L.blk,0,none⟩):=by rw[hB];simp
 obtain⟨R,hp1,hp2⟩:=BJ hz
 have G:=(h3.perm hp1).bag (z':=((Y,.tv λv u=>K v u\/(v= .ptr X 0 0/\u= .pointer (some ⟨L.blk,0,none⟩))),[])) (B:=[]) rfl ⟨rfl,hU,λv u h=>by
  rcases h with h|⟨rfl,rfl⟩
  ·exact hO v u h
  ·rw[<-hu];exact h6'⟩ (.refl _)
 refine⟨⟨(d,.prim (.pointer (some ⟨L.blk,0,none⟩)))::st.T,st.S.set q (Y,.tv λv u=>K v u\/(v= .ptr X 0 0/\u= .pointer (some ⟨L.blk,0,none⟩)))⟩,⟨m,N,Z.set q ((Y,_),[]),rfl,by rw[List.map_set,h2],G.perm (hp2 _).symm,h4.1,h4.2.1,λe v' he=>?_⟩,L.blk,rfl⟩;rw[AT]at he;split at he
 ·rename_i e';subst e'
  injection he with he;subst he
  exact⟨u',h5,by rw[hu];exact A3 _⟩
 ·exact h4.2.2 e v' he
theorem St.note(K:AV->Value->Prop)(hK:∀v u,¬K v u):Da nt st λst'=>∃Y,st'=⟨st.T,(Y,.tv K)::st.S⟩:=by
 rintro m0 a w ⟨m,N,Z,rfl,h2,h3,h4⟩;obtain⟨G',hle⟩:=h3.note K (λv u h=>absurd h (hK v u)) _ rfl;exact⟨⟨st.T,(N,.tv K)::st.S⟩,⟨{m with U:=λy=>m.U y\/y=N},N+1,_,rfl,by rw[List.map_cons,show Z.map (·.1)=st.S from h2],G',h4.mono hle⟩,N,rfl⟩
end
section
variable {P:Program}{nt:Nat}{ops:Array Oper}{Q:Exit->St->Prop}{rest:List Oper}{T:List (Nat×AV)}{S:List AB}{d p q X Y:Nat}{u:Value}{v:AV}{K:AV->Value->Prop}{t:TypeId}{sz:Nat}{l:List AV}{c:Code}
theorem AOps.asPtr(d:Nat)(v:AV)(hK:K v u)(kk:AOps ro P nt ops Q rest ⟨(d,v)::T,S⟩)(hq:At S q (Y,.tv K):=by exact At.f)(hd:AP T d=some (.prim u):=by rfl):AOps ro P nt ops Q rest ⟨T,S⟩:=.ghost (St.asPtr (st:=⟨T,S⟩) hd hq hK) λst' e=>by subst e;exact kk
theorem AWP.asPtr(d:Nat)(v:AV)(hK:K v u)(kk:AWP ro P nt c Q ⟨(d,v)::T,S⟩)(hq:At S q (Y,.tv K):=by exact At.f)(hd:AP T d=some (.prim u):=by rfl):AWP ro P nt c Q ⟨T,S⟩:=.ghost (St.asPtr (st:=⟨T,S⟩) hd hq hK) λst' e=>by subst e;exact kk
theorem AWP.namePtr(d:Nat)(kk:∀b:Nat,AWP ro P nt c Q ⟨(d,.prim (.pointer (some ⟨b,0,none⟩)))::T,S.set q (Y,.tv λv u=>K v u\/(v= .ptr X 0 0/\u= .pointer (some ⟨b,0,none⟩)))⟩)(hd:AP T d=some (.ptr X 0 0):=by rfl)(hS:At S p (X,.row t sz l):=by exact At.f)(hq:At S q (Y,.tv K):=by exact At.f):AWP ro P nt c Q ⟨T,S⟩:=.ghost (St.namePtr (st:=⟨T,S⟩) hd hS hq) λst' ⟨b,e⟩=>by subst e;exact kk b
theorem AWP.note(K:AV->Value->Prop)(hK:∀v u,¬K v u)(kk:∀Y,AWP ro P nt c Q ⟨T,(Y,.tv K)::S⟩):AWP ro P nt c Q ⟨T,S⟩:=.ghost (St.note (st:=⟨T,S⟩) K hK) λst' ⟨Y,e⟩=>by subst e;exact kk Y
end
section
variable {P:Program}{ty t ty2 te:TypeId}{pos:String}{after:Array Edge}{g:Option (Nat×Bool)}{dst:Option Tmp}{x y:Operand}{c:Option (List Bool)}{T:List (Nat×AV)}{S:List AB}
class TPtr(P:Program)(t:TypeId):Prop where
 ex:∃te,P.underlying t=some (.pointer te)/\(P.info? te).any (λj=>j.size !=0)=true
theorem TPtr.h(hp:TPtr P t):∃te j,P.underlying t=some (.pointer te)/\P.info? te=some j/\j.size≠0:=by
 obtain⟨te,h1,h2⟩:=hp.ex;cases hj:P.info? te with
 |none=>rw[hj]at h2;cases h2
 |some j=>rw[hj]at h2;exact⟨te,j,h1,hj,by simpa using h2⟩
theorem LD[hp:TPtr P t](b:Nat)(w:World):(binOp .eql t (.pointer (some ⟨b,0,none⟩)) (.pointer none)).run P w= .ok (.bool false) w:=by
 obtain⟨te,j,h1,_,_⟩:=hp.h
 have h:∀d:Nat,(Op.equalIn (d+1) t (.pointer (some ⟨b,0,none⟩)) (.pointer none)).run P w= .ok false w:=λd=>by
  simp[Op.equalIn,run_underlying h1]
 simp only[binOp];simp[Op.equal,Op.maxDepth,h 9999]
theorem LE[hp:TPtr P t](w:World):(binOp .eql t (.pointer none) (.pointer none)).run P w= .ok (.bool true) w:=by
 obtain⟨te,j,h1,_,_⟩:=hp.h
 have h:∀d:Nat,(Op.equalIn (d+1) t (.pointer none) (.pointer none)).run P w= .ok true w:=λd=>by
  simp[Op.equalIn,run_underlying h1]
 simp only[binOp];simp[Op.equal,Op.maxDepth,h 9999]
theorem KN[hp:TPtr P t](b:Nat)(w:World):(binOp .neq t (.pointer (some ⟨b,0,none⟩)) (.pointer none)).run P w= .ok (.bool true) w:=by
 obtain⟨te,j,h1,_,_⟩:=hp.h
 have h:∀d:Nat,(Op.equalIn (d+1) t (.pointer (some ⟨b,0,none⟩)) (.pointer none)).run P w= .ok false w:=λd=>by
  simp[Op.equalIn,run_underlying h1]
 simp only[binOp];simp[Op.equal,Op.maxDepth,h 9999]
theorem KO[hp:TPtr P t](w:World):(binOp .neq t (.pointer none) (.pointer none)).run P w= .ok (.bool false) w:=by
 obtain⟨te,j,h1,_,_⟩:=hp.h
 have h:∀d:Nat,(Op.equalIn (d+1) t (.pointer none) (.pointer none)).run P w= .ok true w:=λd=>by
  simp[Op.equalIn,run_underlying h1]
 simp only[binOp];simp[Op.equal,Op.maxDepth,h 9999]
theorem OpT.eqNil[TPtr P t]{u:Value}{r:Bool}(hu:(u= .pointer none/\r=true)\/∃b,u= .pointer (some ⟨b,0,none⟩)/\r=false):OpT P ⟨dst,.binOp .eql t x y ty2,ty,pos,after,g⟩ [(x,.prim u),(y,.prim (.pointer none))] [] (.prim (.bool r)) []:=
 .pure_ λm a hx _=>by
  have h1:=(hx (x,.prim u) (by simp)).prim;have h2:=(hx (y,.prim (.pointer none)) (by simp)).prim;refine⟨.bool r,?_,A3 _ rfl⟩;simp only at h1 h2;rcases hu with⟨rfl,rfl⟩|⟨b,rfl,rfl⟩
  ·simp[execOp,h1,h2,Sem.run_bind,Result.andThen_ok,eqGuard,LE,Sem.run_pure]
  ·simp[execOp,h1,h2,Sem.run_bind,Result.andThen_ok,eqGuard,LD,Sem.run_pure]
theorem OpT.neNil[TPtr P t]{u:Value}{r:Bool}(hu:(u= .pointer none/\r=false)\/∃b,u= .pointer (some ⟨b,0,none⟩)/\r=true):OpT P ⟨dst,.binOp .neq t x y ty2,ty,pos,after,g⟩ [(x,.prim u),(y,.prim (.pointer none))] [] (.prim (.bool r)) []:=
 .pure_ λm a hx _=>by
  have h1:=(hx (x,.prim u) (by simp)).prim;have h2:=(hx (y,.prim (.pointer none)) (by simp)).prim;refine⟨.bool r,?_,A3 _ rfl⟩;simp only at h1 h2;rcases hu with⟨rfl,rfl⟩|⟨b,rfl,rfl⟩
  ·simp[execOp,h1,h2,Sem.run_bind,Result.andThen_ok,eqGuard,KO,Sem.run_pure]
  ·simp[execOp,h1,h2,Sem.run_bind,Result.andThen_ok,eqGuard,KN,Sem.run_pure]
theorem Mg{m:Mem}{X sz:Nat}{t':TypeId}{l:List AV}{bs:List Nat}(h:ORel m X (.row t' sz l) bs)(h0:0<l.length):∃L arr bs',m.μ X=some L/\bs=L.blk::bs' /\m.w.heap[L.blk]?=some (.cells arr t' (0,0)):=by
 obtain⟨_,L,hL,_,h|⟨_,arr,bs',e1,e2,_⟩⟩:=h
 ·rw[h.2.1]at h0;cases h0
 ·exact⟨L,arr,bs',hL,e1,e2⟩
theorem OpT.eqPtrS[hp:TPtr P t]{X p sz:Nat}{t1:TypeId}{l:List AV}(h0:0<l.length):OpT P ⟨dst,.binOp .eql t x y ty2,ty,pos,after,g⟩ [(x,.ptr X 0 0),(y,.ptr X 0 0)] [(p,(X,.row t1 sz l))] (.prim (.bool true)) []:=
 .pure_ λm a hx hS=>by
  obtain⟨bs,hO⟩:=hS (p,(X,.row t1 sz l)) (by simp);obtain⟨L,arr,bs',hL,_,_⟩:=Mg hO h0;obtain⟨_,_,A,hA,hA2⟩:=hx (x,.ptr X 0 0) (by simp);obtain⟨_,_,B,hB,hB2⟩:=hx (y,.ptr X 0 0) (by simp);simp only[List.cons.injEq,and_true]at hA hB;rw[hA2 L hL]at hA;rw[hB2 L hL]at hB;obtain⟨te,j,e1,e2,e3⟩:=hp.h;refine⟨.bool true,?_,A3 _ rfl⟩;simp[execOp,hA,hB,Sem.run_bind,Result.andThen_ok,eqGuard,run_eql_ptr_same m.w _ e1 e2,Sem.run_pure]
theorem OpT.eqPtrD[hp:TPtr P t]{X Y p q sz sz2:Nat}{t1 t2:TypeId}{l l2:List AV}(hpq:p≠q)(h0:0<l.length)(h1:0<l2.length):OpT P ⟨dst,.binOp .eql t x y ty2,ty,pos,after,g⟩ [(x,.ptr X 0 0),(y,.ptr Y 0 0)] [(p,(X,.row t1 sz l)),(q,(Y,.row t2 sz2 l2))] (.prim (.bool false)) []:=by
 intro nt m0 T S a w hx hS hd hr;obtain⟨m,N,Z,rfl,h2,h3,h4⟩:=hr;have h2':Z.map (·.1)=S:=h2;have hSp:=hS (p,(X,.row t1 sz l)) (by simp);have hSq:=hS (q,(Y,.row t2 sz2 l2)) (by simp);rw[<-h2',List.getElem?_map]at hSp hSq;obtain⟨⟨z1,b1⟩,hz1,e1⟩:=Option.map_eq_some_iff.1 hSp;obtain⟨⟨z2,b2⟩,hz2,e2⟩:=Option.map_eq_some_iff.1 hSq;simp only at e1 e2;subst e1 e2;obtain⟨R,hp1,_⟩:=EM hpq hz1 hz2;have G:=h3.perm hp1;obtain⟨L1,a1,c1,hL1,rfl,hb1⟩:=Mg (G.obj _ (List.mem_cons_self ..)) h0;obtain⟨L2,a2,c2,hL2,rfl,hb2⟩:=Mg (G.obj _ (List.mem_cons_of_mem _ (List.mem_cons_self ..))) h1
 have hne:L1.blk≠L2.blk:=by
  have:=G.own;simp only[A5,List.append_nil,List.cons_append,List.nodup_cons,List.mem_append,List.mem_cons]at this;intro e;exact this.1 (.inr (.inl e))
 obtain⟨_,_,A,hA,hA2⟩:=h4.ev (hx (x,.ptr X 0 0) (by simp));obtain⟨_,_,B,hB,hB2⟩:=h4.ev (hx (y,.ptr Y 0 0) (by simp));simp only[List.cons.injEq,and_true]at hA hB;rw[hA2 L1 hL1]at hA;rw[hB2 L2 hL2]at hB;obtain⟨te,j,e1,e2,e3⟩:=hp.h;unfold Oper.wp
 have h5:(execOp a.eval ⟨dst,.binOp .eql t x y ty2,ty,pos,after,g⟩).run P m.w= .ok (.value (.bool false)) m.w:=by
  have:=run_eql_ptr_other (P:=P) m.w (a:=⟨L1.blk,0*L1.sz+0,none⟩) (b:=⟨L2.blk,0*L2.sz+0,none⟩) e1 e2 e3 (λe=>hne (by injection e)) hb1 hb2;simp[execOp,hA,hB,Sem.run_bind,Result.andThen_ok,eqGuard,Sem.run_pure]at this⊢;simp[this]
 rw[h5];exact⟨m,N,Z,rfl,h2,h3,h4.put hd (A3 _ rfl)⟩
theorem W.eqNil[TPtr P t]{u:Value}(r:Bool)(hu:(u= .pointer none/\r=true)\/∃b,u= .pointer (some ⟨b,0,none⟩)/\r=false)(hx:Rd c T x (.prim u))(hy:Rd c T y (.prim (.pointer none))):Stp c P ⟨dst,.binOp .eql t x y ty2,ty,pos,after,g⟩ T S [(x,.prim u),(y,.prim (.pointer none))] [] (.prim (.bool r)) []:=⟨.eqNil hu,.cons hx (.cons hy .nil),.nil⟩
theorem W.neNil[TPtr P t]{u:Value}(r:Bool)(hu:(u= .pointer none/\r=false)\/∃b,u= .pointer (some ⟨b,0,none⟩)/\r=true)(hx:Rd c T x (.prim u))(hy:Rd c T y (.prim (.pointer none))):Stp c P ⟨dst,.binOp .neq t x y ty2,ty,pos,after,g⟩ T S [(x,.prim u),(y,.prim (.pointer none))] [] (.prim (.bool r)) []:=⟨.neNil hu,.cons hx (.cons hy .nil),.nil⟩
theorem W.eqPtrS[TPtr P t]{X p sz:Nat}{t1:TypeId}{l:List AV}(h0:0<l.length)(hx:Rd c T x (.ptr X 0 0))(hy:Rd c T y (.ptr X 0 0))(hS:At S p (X,.row t1 sz l)):Stp c P ⟨dst,.binOp .eql t x y ty2,ty,pos,after,g⟩ T S [(x,.ptr X 0 0),(y,.ptr X 0 0)] [(p,(X,.row t1 sz l))] (.prim (.bool true)) []:=⟨.eqPtrS h0,.cons hx (.cons hy .nil),.cons hS .nil⟩
theorem W.eqPtrD[TPtr P t]{X Y p q sz sz2:Nat}{t1 t2:TypeId}{l l2:List AV}(h0:0<l.length)(h1:0<l2.length)(hx:Rd c T x (.ptr X 0 0))(hy:Rd c T y (.ptr Y 0 0))(hS:At S p (X,.row t1 sz l))(hS2:At S q (Y,.row t2 sz2 l2))(hpq:p≠q):Stp c P ⟨dst,.binOp .eql t x y ty2,ty,pos,after,g⟩ T S [(x,.ptr X 0 0),(y,.ptr Y 0 0)] [(p,(X,.row t1 sz l)),(q,(Y,.row t2 sz2 l2))] (.prim (.bool false)) []:=⟨.eqPtrD hpq h0 h1,.cons hx (.cons hy .nil),.cons hS (.cons hS2 .nil)⟩
end
end
section
variable {ro:Option Nat}
section
variable {P:Program}{nt:Nat}{ops:Array Oper}{Q:Exit->St->Prop}{rest:List Oper}{T:List (Nat×AV)}{S:List AB}{f:FuncId}{dst:Option Tmp}{ats:Array TypeId}{ty:TypeId}{pos:String}{after:Array Edge}{Sin Sout R:List AB}{r v:AV}
theorem CN{S L Sin R:List AB}(hp:S=L++(Sin++R)):S.Perm (Sin++([]++(L++R))):=hp▸BZ L Sin R
theorem IY{S L Sin R:List AB}{z:AB}(hp:S=L++(Sin++R)):(z::S).Perm (Sin++([z]++(L++R))):=by
 subst hp;refine((BZ L Sin R).cons z).trans ?_;exact BZ [z] Sin (L++R)
theorem Ry{β:Type}{C:β->Prop}{rr vv:β->AV}{So:β->List AB}(L:List AB)(h:Spec P f [] Sin λr' S'=>∃b,C b/\r'=rr b/\S'=So b)[hf:∀b,Frz (rr b) (vv b)](k:∀b,C b->AOps ro P nt ops Q rest ⟨AL T dst (vv b),L++(So b++R)⟩)(hp:S=L++(Sin++R):=by rfl)(ht:Aa []=true:=by rfl)(hd:AK dst nt=true:=by rfl):AOps ro P nt ops Q (⟨dst,.call ⟨.value (.func f),#[],ats⟩,ty,pos,after,none⟩::rest) ⟨T,S⟩:=
 CA (xs:=[]) (gs:=[]) (nw:=λ_=>[]) (L:=L) h (λb=>.fz) (λ_=>rfl) (CN hp) (.nil) ht hd k
theorem N5{x0:Operand}{v0:AV}{β:Type}{C:β->Prop}{rr vv:β->AV}{So:β->List AB}(L:List AB)(h:Spec P f [v0] Sin λr' S'=>∃b,C b/\r'=rr b/\S'=So b)[hf:∀b,Frz (rr b) (vv b)](k:∀b,C b->AOps ro P nt ops Q rest ⟨AL T dst (vv b),L++(So b++R)⟩)(hp:S=L++(Sin++R):=by rfl)(h0:Rd none T x0 v0:=by rfl)(ht:Aa [(x0,v0)]=true:=by rfl)(hd:AK dst nt=true:=by rfl):AOps ro P nt ops Q (⟨dst,.call ⟨.value (.func f),#[x0],ats⟩,ty,pos,after,none⟩::rest) ⟨T,S⟩:=
 CA (xs:=[(x0,v0)]) (gs:=[]) (nw:=λ_=>[]) (L:=L) h (λb=>.fz) (λ_=>rfl) (CN hp) (.cons h0 (.nil)) ht hd k
theorem N4{x0:Operand}{v0:AV}(L:List AB)(h:Spec P f [v0] Sin λr' S'=>r'=r/\S'=Sout)[hf:Frz r v](k:AOps ro P nt ops Q rest ⟨AL T dst v,L++(Sout++R)⟩)(hp:S=L++(Sin++R):=by rfl)(h0:Rd none T x0 v0:=by rfl)(ht:Aa [(x0,v0)]=true:=by rfl)(hd:AK dst nt=true:=by rfl):AOps ro P nt ops Q (⟨dst,.call ⟨.value (.func f),#[x0],ats⟩,ty,pos,after,none⟩::rest) ⟨T,S⟩:=
 CA (β:=Unit) (C:=λ_=>True) (rr:=λ_=>r) (vv:=λ_=>v) (So:=λ_=>Sout) (xs:=[(x0,v0)]) (gs:=[]) (nw:=λ_=>[]) (L:=L) (h.mono λr' S' ⟨e1,e2⟩=>⟨(),trivial,e1,e2⟩) (λb=>.fz) (λ_=>rfl) (CN hp) (.cons h0 (.nil)) ht hd (λ_ _=>k)
theorem ML{x0:Operand}{v0:AV}{x:Operand}{cap:List AV}(L:List AB)(h:Spec P f (v0::cap) Sin λr' S'=>r'=r/\S'=Sout)[hf:Frz r v](k:AOps ro P nt ops Q rest ⟨AL T dst v,L++(Sout++R)⟩)(hf0:ev T x=some (.fn f cap):=by rfl)(hst:Bm cap=true:=by first|rfl|assumption)(hp:S=L++(Sin++R):=by rfl)(h0:Rd none T x0 v0:=by rfl)(ht:Aa [(x0,v0)]=true:=by rfl)(hd:AK dst nt=true:=by rfl):AOps ro P nt ops Q (⟨dst,.call ⟨.value x,#[x0],ats⟩,ty,pos,after,none⟩::rest) ⟨T,S⟩:=
 HW (β:=Unit) (C:=λ_=>True) (rr:=λ_=>r) (vv:=λ_=>v) (So:=λ_=>Sout) (xs:=[(x0,v0)]) (gs:=[]) (nw:=λ_=>[]) (L:=L) (h.mono λr' S' ⟨e1,e2⟩=>⟨(),trivial,e1,e2⟩) (λb=>.fz) (λ_=>rfl) (CN hp) hf0 hst (.cons h0 (.nil)) ht hd (λ_ _=>k)
theorem Hr{x0:Operand}{v0:AV}{x1:Operand}{v1:AV}{β:Type}{C:β->Prop}{rr vv:β->AV}{So:β->List AB}(L:List AB)(h:Spec P f [v0,v1] Sin λr' S'=>∃b,C b/\r'=rr b/\S'=So b)[hf:∀b,Frz (rr b) (vv b)](k:∀b,C b->AOps ro P nt ops Q rest ⟨AL T dst (vv b),L++(So b++R)⟩)(hp:S=L++(Sin++R):=by rfl)(h0:Rd none T x0 v0:=by rfl)(h1:Rd none T x1 v1:=by rfl)(ht:Aa [(x0,v0),(x1,v1)]=true:=by rfl)(hd:AK dst nt=true:=by rfl):AOps ro P nt ops Q (⟨dst,.call ⟨.value (.func f),#[x0,x1],ats⟩,ty,pos,after,none⟩::rest) ⟨T,S⟩:=
 CA (xs:=[(x0,v0),(x1,v1)]) (gs:=[]) (nw:=λ_=>[]) (L:=L) h (λb=>.fz) (λ_=>rfl) (CN hp) (.cons h0 (.cons h1 (.nil))) ht hd k
theorem DS{x0:Operand}{v0:AV}{x1:Operand}{v1:AV}(L:List AB)(h:Spec P f [v0,v1] Sin λr' S'=>r'=r/\S'=Sout)[hf:Frz r v](k:AOps ro P nt ops Q rest ⟨AL T dst v,L++(Sout++R)⟩)(hp:S=L++(Sin++R):=by rfl)(h0:Rd none T x0 v0:=by rfl)(h1:Rd none T x1 v1:=by rfl)(ht:Aa [(x0,v0),(x1,v1)]=true:=by rfl)(hd:AK dst nt=true:=by rfl):AOps ro P nt ops Q (⟨dst,.call ⟨.value (.func f),#[x0,x1],ats⟩,ty,pos,after,none⟩::rest) ⟨T,S⟩:=
 CA (β:=Unit) (C:=λ_=>True) (rr:=λ_=>r) (vv:=λ_=>v) (So:=λ_=>Sout) (xs:=[(x0,v0),(x1,v1)]) (gs:=[]) (nw:=λ_=>[]) (L:=L) (h.mono λr' S' ⟨e1,e2⟩=>⟨(),trivial,e1,e2⟩) (λb=>.fz) (λ_=>rfl) (CN hp) (.cons h0 (.cons h1 (.nil))) ht hd (λ_ _=>k)
theorem MJ{x0:Operand}{v0:AV}{x1:Operand}{v1:AV}{t:TypeId}{sz:Nat}{ll:List AV}(L:List AB)(h:Spec P f [v0,v1] Sin λr' S'=>r'= .lst true t sz ll/\S'=Sout)(k:∀Y,AOps ro P nt ops Q rest ⟨AL T dst (.sl Y 0 ll.length),(Y,.row t sz ll)::(L++(Sout++R))⟩)(hp:S=L++(Sin++R):=by rfl)(h0:Rd none T x0 v0:=by rfl)(h1:Rd none T x1 v1:=by rfl)(ht:Aa [(x0,v0),(x1,v1)]=true:=by rfl)(hd:AK dst nt=true:=by rfl):AOps ro P nt ops Q (⟨dst,.call ⟨.value (.func f),#[x0,x1],ats⟩,ty,pos,after,none⟩::rest) ⟨T,S⟩:=
 AOps.rs λY=>CA (β:=Unit) (C:=λ_=>True) (rr:=λ_=>.lst true t sz ll) (vv:=λ_=>.sl Y 0 ll.length) (So:=λ_=>Sout) (xs:=[(x0,v0),(x1,v1)]) (gs:=[(Y,.gone)]) (nw:=λ_=>[(Y,.row t sz ll)]) (L:=L) (h.mono λr' S' ⟨e1,e2⟩=>⟨(),trivial,e1,e2⟩) (λb=>.ls) (λ_=>rfl) (IY hp) (.cons h0 (.cons h1 (.nil))) ht hd (λ_ _=>k Y)
theorem JB{x0:Operand}{v0:AV}{x1:Operand}{v1:AV}{β:Type}{C:β->Prop}{t:TypeId}{sz:Nat}{ll:β->List AV}{So:β->List AB}(L:List AB)(h:Spec P f [v0,v1] Sin λr' S'=>∃b,C b/\r'= .lst true t sz (ll b)/\S'=So b)(k:∀b,C b->∀Y,AOps ro P nt ops Q rest ⟨AL T dst (.sl Y 0 (ll b).length),(Y,.row t sz (ll b))::(L++(So b++R))⟩)(hp:S=L++(Sin++R):=by rfl)(h0:Rd none T x0 v0:=by rfl)(h1:Rd none T x1 v1:=by rfl)(ht:Aa [(x0,v0),(x1,v1)]=true:=by rfl)(hd:AK dst nt=true:=by rfl):AOps ro P nt ops Q (⟨dst,.call ⟨.value (.func f),#[x0,x1],ats⟩,ty,pos,after,none⟩::rest) ⟨T,S⟩:=
 AOps.rs λY=>CA (rr:=λb=>.lst true t sz (ll b)) (vv:=λb=>.sl Y 0 (ll b).length) (xs:=[(x0,v0),(x1,v1)]) (gs:=[(Y,.gone)]) (nw:=λb=>[(Y,.row t sz (ll b))]) (L:=L) h (λb=>.ls) (λ_=>rfl) (IY hp) (.cons h0 (.cons h1 (.nil))) ht hd (λb hb=>k b hb Y)
theorem MK{x0:Operand}{v0:AV}{x1:Operand}{v1:AV}{x:Operand}{cap:List AV}(L:List AB)(h:Spec P f (v0::v1::cap) Sin λr' S'=>r'=r/\S'=Sout)[hf:Frz r v](k:AOps ro P nt ops Q rest ⟨AL T dst v,L++(Sout++R)⟩)(hf0:ev T x=some (.fn f cap):=by rfl)(hst:Bm cap=true:=by first|rfl|assumption)(hp:S=L++(Sin++R):=by rfl)(h0:Rd none T x0 v0:=by rfl)(h1:Rd none T x1 v1:=by rfl)(ht:Aa [(x0,v0),(x1,v1)]=true:=by rfl)(hd:AK dst nt=true:=by rfl):AOps ro P nt ops Q (⟨dst,.call ⟨.value x,#[x0,x1],ats⟩,ty,pos,after,none⟩::rest) ⟨T,S⟩:=
 HW (β:=Unit) (C:=λ_=>True) (rr:=λ_=>r) (vv:=λ_=>v) (So:=λ_=>Sout) (xs:=[(x0,v0),(x1,v1)]) (gs:=[]) (nw:=λ_=>[]) (L:=L) (h.mono λr' S' ⟨e1,e2⟩=>⟨(),trivial,e1,e2⟩) (λb=>.fz) (λ_=>rfl) (CN hp) hf0 hst (.cons h0 (.cons h1 (.nil))) ht hd (λ_ _=>k)
theorem DB{x0:Operand}{v0:AV}{x1:Operand}{v1:AV}{x2:Operand}{v2:AV}{β:Type}{C:β->Prop}{rr vv:β->AV}{So:β->List AB}(L:List AB)(h:Spec P f [v0,v1,v2] Sin λr' S'=>∃b,C b/\r'=rr b/\S'=So b)[hf:∀b,Frz (rr b) (vv b)](k:∀b,C b->AOps ro P nt ops Q rest ⟨AL T dst (vv b),L++(So b++R)⟩)(hp:S=L++(Sin++R):=by rfl)(h0:Rd none T x0 v0:=by rfl)(h1:Rd none T x1 v1:=by rfl)(h2:Rd none T x2 v2:=by rfl)(ht:Aa [(x0,v0),(x1,v1),(x2,v2)]=true:=by rfl)(hd:AK dst nt=true:=by rfl):AOps ro P nt ops Q (⟨dst,.call ⟨.value (.func f),#[x0,x1,x2],ats⟩,ty,pos,after,none⟩::rest) ⟨T,S⟩:=
 CA (xs:=[(x0,v0),(x1,v1),(x2,v2)]) (gs:=[]) (nw:=λ_=>[]) (L:=L) h (λb=>.fz) (λ_=>rfl) (CN hp) (.cons h0 (.cons h1 (.cons h2 (.nil)))) ht hd k
theorem Rv{x0:Operand}{v0:AV}{x1:Operand}{v1:AV}{x2:Operand}{v2:AV}(L:List AB)(h:Spec P f [v0,v1,v2] Sin λr' S'=>r'=r/\S'=Sout)[hf:Frz r v](k:AOps ro P nt ops Q rest ⟨AL T dst v,L++(Sout++R)⟩)(hp:S=L++(Sin++R):=by rfl)(h0:Rd none T x0 v0:=by rfl)(h1:Rd none T x1 v1:=by rfl)(h2:Rd none T x2 v2:=by rfl)(ht:Aa [(x0,v0),(x1,v1),(x2,v2)]=true:=by rfl)(hd:AK dst nt=true:=by rfl):AOps ro P nt ops Q (⟨dst,.call ⟨.value (.func f),#[x0,x1,x2],ats⟩,ty,pos,after,none⟩::rest) ⟨T,S⟩:=
 CA (β:=Unit) (C:=λ_=>True) (rr:=λ_=>r) (vv:=λ_=>v) (So:=λ_=>Sout) (xs:=[(x0,v0),(x1,v1),(x2,v2)]) (gs:=[]) (nw:=λ_=>[]) (L:=L) (h.mono λr' S' ⟨e1,e2⟩=>⟨(),trivial,e1,e2⟩) (λb=>.fz) (λ_=>rfl) (CN hp) (.cons h0 (.cons h1 (.cons h2 (.nil)))) ht hd (λ_ _=>k)
theorem Rx{x0:Operand}{v0:AV}{x1:Operand}{v1:AV}{x2:Operand}{v2:AV}{x3:Operand}{v3:AV}{x4:Operand}{v4:AV}{β:Type}{C:β->Prop}{rr vv:β->AV}{So:β->List AB}(L:List AB)(h:Spec P f [v0,v1,v2,v3,v4] Sin λr' S'=>∃b,C b/\r'=rr b/\S'=So b)[hf:∀b,Frz (rr b) (vv b)](k:∀b,C b->AOps ro P nt ops Q rest ⟨AL T dst (vv b),L++(So b++R)⟩)(hp:S=L++(Sin++R):=by rfl)(h0:Rd none T x0 v0:=by rfl)(h1:Rd none T x1 v1:=by rfl)(h2:Rd none T x2 v2:=by rfl)(h3:Rd none T x3 v3:=by rfl)(h4:Rd none T x4 v4:=by rfl)(ht:Aa [(x0,v0),(x1,v1),(x2,v2),(x3,v3),(x4,v4)]=true:=by rfl)(hd:AK dst nt=true:=by rfl):AOps ro P nt ops Q (⟨dst,.call ⟨.value (.func f),#[x0,x1,x2,x3,x4],ats⟩,ty,pos,after,none⟩::rest) ⟨T,S⟩:=
 CA (xs:=[(x0,v0),(x1,v1),(x2,v2),(x3,v3),(x4,v4)]) (gs:=[]) (nw:=λ_=>[]) (L:=L) h (λb=>.fz) (λ_=>rfl) (CN hp) (.cons h0 (.cons h1 (.cons h2 (.cons h3 (.cons h4 (.nil)))))) ht hd k
end
end
section
variable {ro:Option Nat}
open Go.RowKit
abbrev YO:=Nat->List AV×List AB
section
variable {P:Program}{nt:Nat}{ops:Array Oper}{Q:Exit->St->Prop}{rest:List Oper}{T:List (Nat×AV)}{S Si Sl Sf:List AB}{y:Value}{xs:List YO}{J:Nat->List AB->Prop}{Jx:List AB->Prop}
variable {dst:Option Tmp}{ty:TypeId}{pos:String}{after:Array Edge}{x:Operand}{ys:List (Operand×AV)}{ats:Array TypeId}{i:Nat}
end
section
variable {P:Program}{nt:Nat}{ops:Array Oper}{Q:Exit->St->Prop}{rest:List Oper}{T:List (Nat×AV)}{Si Sl Sf ob:List AB}{y:Value}{xs:List YO}{J:Nat->List AB->Prop}{Jx:List AB->Prop}{dst:Option Tmp}{ty:TypeId}{pos:String}{after:Array Edge}{x x0 x1:Operand}{v0 v1:AV}{ats:Array TypeId}{i:Nat}
end
end
section
variable {ro:Option Nat}
open Go.RowKit
section
variable {P:Program}{nt:Nat}{ops:Array Oper}{J:List AB->Prop}
section
variable {Q:Exit->St->Prop}{l rest:List Oper}{acc:List Eff}{st:St}{T:List (Nat×AV)}{S:List AB}{xs:List (Operand×AV)}{rS wS:List (Nat×AB)}{v:AV}{op:Op}{ty:TypeId}{pos:String}{after:Array Edge}{dst:Option Tmp}
end
end
end
section
variable {ro:Option Nat}
open Go.RowKit
section
variable {P:Program}{nt:Nat}{ops:Array Oper}
theorem Jd:∀{l l':List Eff} {k:Nat} {X:Nat->Bool} {st:St},l.length=l'.length->(∀j,X (k+j)=true->l[j]?=l'[j]?)->stX l k X st=stX l' k X st
 |[],[],_,_,_,_,_=>rfl
 |[],_::_,_,_,_,h,_=>by simp at h
 |_::_,[],_,_,_,h,_=>by simp at h
 |e::l,e'::l',k,X,st,h,ha=>by
  have ih:=λst=>Jd (l:=l) (l':=l') (k:=k+1) (X:=X) (st:=st) (by simpa using h) (λj hj=>by
   have:=ha (j+1) (by rw[show k+(j+1)=k+1+j by omega];exact hj);simpa using this)
  simp only[stX];cases hX:X k with
  |false=>exact ih _
  |true=>
   have h0:=ha 0 (by simpa using hX);simp at h0;rw[h0];exact ih _
theorem NP{β:Type}{m0:Mem}{st:St}{effs:β->List Eff}{b0:β}{i0:Nat}{Q':Exit->Act->World->Prop}(heff:∀b,(effs b).map (·.o)=ops.toList)
  (hloc:∀b i e,i≠i0->(effs b)[i]?=some e->HU P nt ops e (stX (effs b) 0 (λj=>decide (j<i)) st))
  (hlocE:∀e,(effs b0)[i0]?=some e->e.o.guard=none/\(∀c,e.o.op≠ .defer c)/\∀m0 T S a w,(∀t∈e.rT,AP T t=AP (stX (effs b0) 0 (λj=>decide (j<i0)) st).T t)->(∀p∈e.rS,S[p]?=(stX (effs b0) 0 (λj=>decide (j<i0)) st).S[p]?)->Rel nt m0 ⟨T,S⟩ a w->e.o.wp P a w (λa' w'=>∃p:β×Eff,(effs p.1)[i0]?=some p.2/\Rel nt m0 (p.2.app ⟨T,S⟩) a' w') (λ_ _ _=>False))
  (hc:∀b,CR (effs b) (BC ops.toList [])=true) (hlater:∀j,j≠i0->j<ops.size->(∀b b',(effs b)[j]?=(effs b')[j]?)\/∃m:Nat,(BC ops.toList [])[j]?=some m/\m.testBit i0=true) (hdn:down ops.toList 0=true) (hQ:∀b a w,Rel nt m0 (stX (effs b) 0 (λ_=>true) st) a w->Q' .normal a w):
  ∀(fuel:Nat) (X:Array Bool) (a:Act) (w:World),X.size=ops.size->(∀j o,ops.toList[j]?=some o->X.getD j false=true->∀e∈o.after.toList,Region.binds .any e=true->X.getD e.on false=true)->
   ((List.range ops.size).filter λj=>!X.getD j false).length<=fuel->(∃b,Rel nt m0 (stX (effs b) 0 (λj=>X.getD j false) st) a w)->wpAnyIn (FW ro) 0 P .any ops Q' fuel X a w:=by
 have hlen:∀b,(effs b).length=ops.size:=λb=>by have:=congrArg List.length (heff b);simpa using this
 have done:∀b (X:Array Bool) a w,(∀j,j<ops.size->X.getD j false=true)->Rel nt m0 (stX (effs b) 0 (λj=>X.getD j false) st) a w->Q' .normal a w:=by
  intro b X a w hall hr;refine hQ b a w ?_
  have hT:∀t,AP (stX (effs b) 0 (λj=>X.getD j false) st).T t=AP (stX (effs b) 0 (λ_=>true) st).T t:=λt=>
   CF (λj e he _=>by rw[Nat.zero_add];exact hall j (by rw[<-hlen b];exact(List.getElem?_eq_some_iff.1 he).1)) rfl
  have hS:(stX (effs b) 0 (λj=>X.getD j false) st).S=(stX (effs b) 0 (λ_=>true) st).S:=List.ext_getElem? λp=>
   Ck (λj e he _=>by rw[Nat.zero_add];exact hall j (by rw[<-hlen b];exact(List.getElem?_eq_some_iff.1 he).1)) rfl rfl
  have hr':Rel nt m0 ⟨(stX (effs b) 0 (λ_=>true) st).T,(stX (effs b) 0 (λj=>X.getD j false) st).S⟩ a w:=Bu hr λd v h=>(hT d).trans h
  rw[hS]at hr';exact hr'
 have ready:∀(X:Array Bool),X.size=ops.size->Region.ready .any ops X=[]->∀j,j<ops.size->X.getD j false=true:=by
  intro X hX hnil j
  induction j using Nat.strongRecOn with
  |_ j ih=>
   intro hj;cases hx:X.getD j false with
   |true=>rfl
   |false=>
    exfalso
    have:j∈Region.ready .any ops X:=by
     refine List.mem_filter.2 ⟨List.mem_range.2 hj,?_⟩;have ho:ops[j]?=some ops[j]:=by simp[hj]
     have hx':X.getD j true=false:=by
      have hjX:j<X.size:=by omega
      simp only[Array.getD_eq_getD_getElem?,Array.getElem?_eq_getElem hjX,Option.getD_some]at hx⊢;exact hx
     simp only[hx',ho,Option.map_some,Option.getD_some,Bool.not_false,Bool.true_and];rw[Array.all_eq_true'];intro e he;cases hb:Region.binds .any e with
     |false=>simp
     |true=>
      have hlt:=Dl _ 0 hdn j ops[j] (by simp[hj]) e (by simpa using he) hb;have:=ih e.on (by omega) (by omega);simpa using this
    rw[hnil]at this;cases this
 intro fuel
 induction fuel with
 |zero=>
  intro X a w hX hdc hf hr
  have hall:∀j,j<ops.size->X.getD j false=true:=by
   intro j hj;have hnil:=List.eq_nil_of_length_eq_zero (Nat.le_zero.1 hf);cases hx:X.getD j false with
   |true=>rfl
   |false=>
    have:j∈(List.range ops.size).filter λj=>!X.getD j false:=List.mem_filter.2 ⟨List.mem_range.2 hj,by simp only[hx,Bool.not_false]⟩
    rw[hnil]at this;cases this
  obtain⟨b,hr⟩:=hr;refine⟨List.filter_eq_nil_iff.2 λj hj=>?_,done b X a w hall hr⟩;have hj':=List.mem_range.1 hj;have:=hall j hj';have hjX:j<X.size:=by omega
  simp only[Array.getD_eq_getD_getElem?,Array.getElem?_eq_getElem hjX,Option.getD_some]at this⊢;simp[this]
 |succ fuel ih=>
  intro X a w hX hdc hf hr;obtain⟨b1,hr⟩:=hr;refine⟨λhnil=>done b1 X a w (ready X hX hnil) hr,λi hi=>?_⟩;obtain⟨hi1,hi2⟩:=List.mem_filter.1 hi;have hin:=List.mem_range.1 hi1;have ho:ops[i]?=some ops[i]:=by simp[hin]
  have hiX:i<X.size:=by omega
  simp only[ho,Option.map_some,Option.getD_some,Bool.and_eq_true]at hi2
  have hXi:X.getD i false=false:=by
   have h:=hi2.1;simp only[Array.getD_eq_getD_getElem?,Array.getElem?_eq_getElem hiX,Option.getD_some]at h⊢;simpa using h
  have hpre:∀e∈(ops[i]).after.toList,Region.binds .any e=true->X.getD e.on false=true:=by
   intro e he hb;have:=Array.all_eq_true'.1 hi2.2 e (by simpa using he);simpa[hb]using this
  have key:∀b e,(effs b)[i]?=some e->e.o=ops[i]/\(∀t∈e.rT,AP (stX (effs b) 0 (λj=>X.getD j false) st).T t=AP (stX (effs b) 0 (λj=>decide (j<i)) st).T t)/\(∀p∈e.rS,(stX (effs b) 0 (λj=>X.getD j false) st).S[p]?=(stX (effs b) 0 (λj=>decide (j<i)) st).S[p]?)/\
    (∀a w,Rel nt m0 (e.app (stX (effs b) 0 (λj=>X.getD j false) st)) a w->Rel nt m0 (stX (effs b) 0 (λj=>(X.setIfInBounds i true).getD j false) st) a w):=by
   intro bb e he
   have heo:e.o=ops[i]:=by
    have h1:((effs bb).map (·.o))[i]?=some e.o:=by simp[he]
    rw[heff bb]at h1;simpa[hin]using h1.symm
   have hmask:=Bk (λj=>X.getD j false) ops.toList [] (λj o hj hXj e he hb=>hdc j o hj (by simpa using hXj) e he hb) (λj m h=>by simp at h)
   have hcomp:∀a b ea eb,a<b->(effs bb)[a]?=some ea->(effs bb)[b]?=some eb->BN ea eb=true->∃m:Nat,(BC ops.toList [])[b]?=some m/\m.testBit a=true:=by
    intro a b ea eb hab hea heb hcl;have h1:=List.all_eq_true.1 (hc bb) b (List.mem_range.2 (List.getElem?_eq_some_iff.1 heb).1);have h2:=List.all_eq_true.1 h1 a (List.mem_range.2 hab);simp only[hea,heb]at h2;cases hm:(BC ops.toList [])[b]? with
    |none=>rw[hm]at h2;cases h2
    |some m=>rw[hm]at h2;exact⟨m,rfl,by simpa[hcl]using h2⟩
   have hbefore:∀j ej,j<i->(effs bb)[j]?=some ej->BN ej e=true->X.getD j false=true:=by
    intro j ej hj hej hcl;obtain⟨m,hm1,hm2⟩:=hcomp j i ej e hj hej he hcl
    have hcl2:=Bk (λk=>X.getD k false||decide (k=i)) ops.toList [] (λk o hk hXk ee hee hb=>by
     simp only[List.length_nil,Nat.zero_add,Bool.or_eq_true,decide_eq_true_eq]at hXk⊢;rcases hXk with h|h
     ·exact .inl (hdc k o hk h ee hee hb)
     ·subst h
      have:o=ops[k]:=by simpa[hin]using hk.symm
      subst this;exact .inl (hpre ee hee hb)) (λj m h=>by simp at h) i m hm1 (by simp) j hm2
    simp only[Bool.or_eq_true,decide_eq_true_eq]at hcl2;rcases hcl2 with h|h
    ·exact h
    ·omega
   have hafter:∀j ej,i<j->(effs bb)[j]?=some ej->BN e ej=true->X.getD j false=false:=by
    intro j ej hj hej hcl;obtain⟨m,hm1,hm2⟩:=hcomp i j e ej hj he hej hcl;cases hx:X.getD j false with
    |false=>rfl
    |true=>
     have:=hmask j m hm1 hx i hm2;rw[hXi]at this;cases this
   have hrT:∀t∈e.rT,AP (stX (effs bb) 0 (λj=>X.getD j false) st).T t=AP (stX (effs bb) 0 (λj=>decide (j<i)) st).T t:=by
    intro t ht;refine CF (λj ej hej hd=>?_) rfl;rw[Nat.zero_add];rcases Nat.lt_trichotomy j i with h|h|h
    ·rw[hbefore j ej h hej ?_]
     ·simp[h]
     ·cases hcl:BN ej e with
      |true=>rfl
      |false=>exact absurd ht ((Ao hcl).1 t hd)
    ·subst h
     rw[hXi];simp
    ·rw[hafter j ej h hej ?_]
     ·simp;omega
     ·cases hcl:BN e ej with
      |true=>rfl
      |false=>exact absurd ht ((Ao hcl).2.1 t hd)
   have hrS:∀p∈e.rS,(stX (effs bb) 0 (λj=>X.getD j false) st).S[p]?=(stX (effs bb) 0 (λj=>decide (j<i)) st).S[p]?:=by
    intro p hp;refine Ck (λj ej hej hd=>?_) rfl rfl;rw[Nat.zero_add];obtain⟨q,hq,rfl⟩:=hd;rcases Nat.lt_trichotomy j i with h|h|h
    ·rw[hbefore j ej h hej ?_]
     ·simp[h]
     ·cases hcl:BN ej e with
      |true=>rfl
      |false=>exact absurd hp ((Ao hcl).2.2.2.1 q hq)
    ·subst h
     rw[hXi];simp
    ·rw[hafter j ej h hej ?_]
     ·simp;omega
     ·cases hcl:BN e ej with
      |true=>rfl
      |false=>exact absurd hp ((Ao hcl).2.2.2.2.1 q hq)
   have hX':∀k,(X.setIfInBounds i true).getD k false=(X.getD k false||decide (k=i)):=by
    intro k;simp only[Array.getD_eq_getD_getElem?,Array.getElem?_setIfInBounds];by_cases hk:i=k
    ·subst hk;simp[hiX]
    ·simp[hk,Ne.symm hk]
   have hnew:∀a w,Rel nt m0 (e.app (stX (effs bb) 0 (λj=>X.getD j false) st)) a w->Rel nt m0 (stX (effs bb) 0 (λj=>(X.setIfInBounds i true).getD j false) st) a w:=by
    intro a w hr'
    have hT:∀t,AP (stX (effs bb) 0 (λj=>(X.setIfInBounds i true).getD j false) st).T t=AP (e.app (stX (effs bb) 0 (λj=>X.getD j false) st)).T t:=by
     intro t;by_cases hd:e.o.dst=some t
     ·rw[GA (i:=i) (e:=e) (t:=t) he (by rw[Nat.zero_add,hX'];simp) hd ?_]
      ·simp[Eff.app,hd,AL,AT]
      ·intro j ej hj hej hXj hdj
       rw[Nat.zero_add,hX']at hXj
       have hXj':X.getD j false=true:=by
        simp only[Bool.or_eq_true,decide_eq_true_eq]at hXj;rcases hXj with h|h
        ·exact h
        ·omega
       have:=hafter j ej hj hej (by
        cases hcl:BN e ej with
        |true=>rfl
        |false=>exact absurd hdj ((Ao hcl).2.2.1 t hd))
       rw[hXj']at this;cases this
     ·have ap:AP (e.app (stX (effs bb) 0 (λj=>X.getD j false) st)).T t=AP (stX (effs bb) 0 (λj=>X.getD j false) st).T t:=by
       simp only[Eff.app];cases hdd:e.o.dst with
       |none=>rfl
       |some d=>rw[AL,AT,if_neg];exact λh=>hd (by rw[hdd,h])
      rw[ap];refine CF (λj ej hej hdj=>?_) rfl;rw[Nat.zero_add,hX']
      have:j≠i:=by
       rintro rfl;rw[he]at hej;injection hej with hej
       subst hej;exact hd hdj
      simp[this]
    have hS:(stX (effs bb) 0 (λj=>(X.setIfInBounds i true).getD j false) st).S=(e.app (stX (effs bb) 0 (λj=>X.getD j false) st)).S:=by
     refine List.ext_getElem? λp=>?_
     by_cases hd:∃q∈e.wS,q.1=p
     ·rw[FB (i:=i) (e:=e) (p:=p) he (by rw[Nat.zero_add,hX'];simp) hd ?_ (stX (effs bb) 0 (λj=>X.getD j false) st).S (F9 ..)]
      ·rfl
      ·intro j ej hj hej hXj hdj
       rw[Nat.zero_add,hX']at hXj
       have hXj':X.getD j false=true:=by
        simp only[Bool.or_eq_true,decide_eq_true_eq]at hXj;rcases hXj with h|h
        ·exact h
        ·omega
       obtain⟨q,hq,hqp⟩:=hd;obtain⟨q',hq',hqp'⟩:=hdj
       have:=hafter j ej hj hej (by
        cases hcl:BN e ej with
        |true=>rfl
        |false=>exact absurd (hqp.trans hqp'.symm) ((Ao hcl).2.2.2.2.2 q hq q' hq'))
       rw[hXj']at this;cases this
     ·have ap:(e.app (stX (effs bb) 0 (λj=>X.getD j false) st)).S[p]?=(stX (effs bb) 0 (λj=>X.getD j false) st).S[p]?:=DG (λq hq h=>hd ⟨q,hq,h⟩) _
      rw[ap];refine Ck (λj ej hej hdj=>?_) rfl rfl;rw[Nat.zero_add,hX']
      have:j≠i:=by
       rintro rfl;rw[he]at hej;injection hej with hej
       subst hej;exact hd hdj
      simp[this]
    have:=Bu hr' (T':=(stX (effs bb) 0 (λj=>(X.setIfInBounds i true).getD j false) st).T) λd v h=>(hT d).symm.trans h
    rw[show(⟨(stX (effs bb) 0 (λj=>(X.setIfInBounds i true).getD j false) st).T,AM (stX (effs bb) 0 (λj=>X.getD j false) st).S e.wS⟩:St)=stX (effs bb) 0 (λj=>(X.setIfInBounds i true).getD j false) st from by
     rw[show AM (stX (effs bb) 0 (λj=>X.getD j false) st).S e.wS=(e.app (stX (effs bb) 0 (λj=>X.getD j false) st)).S from rfl,<-hS]]at this
    exact this
   exact⟨heo,hrT,hrS,hnew⟩
  have hX':∀k,(X.setIfInBounds i true).getD k false=(X.getD k false||decide (k=i)):=by
   intro k;simp only[Array.getD_eq_getD_getElem?,Array.getElem?_setIfInBounds];by_cases hk:i=k
   ·subst hk;simp[hiX]
   ·simp[hk,Ne.symm hk]
  have next:∀b e,(effs b)[i]?=some e->∀a w,Rel nt m0 (e.app (stX (effs b) 0 (λj=>X.getD j false) st)) a w->wpAnyIn (FW ro) 0 P .any ops Q' fuel (X.setIfInBounds i true) a w:=by
   intro b e he a w hr';refine ih _ a w (by simp[hX]) ?_ ?_ ⟨b,(key b e he).2.2.2 a w hr'⟩
   ·intro j o hj hXj ee hee hb
    rw[hX']at hXj⊢;simp only[Bool.or_eq_true,decide_eq_true_eq]at hXj⊢;rcases hXj with h|h
    ·exact .inl (hdc j o hj h ee hee hb)
    ·subst h
     have:o=ops[j]:=by simpa[hin]using hj.symm
     subst this;exact .inl (hpre ee hee hb)
   ·have e1:(List.range ops.size).filter (λj=>!(X.setIfInBounds i true).getD j false)=((List.range ops.size).filter λj=>!X.getD j false).filter λj=>!decide (j=i):=by
     rw[List.filter_filter]
     congr 1
     funext j
     rw[hX'];cases X.getD j false<;>simp
    have hmem:i∈(List.range ops.size).filter λj=>!X.getD j false:=List.mem_filter.2 ⟨List.mem_range.2 hin,by simp only[hXi,Bool.not_false]⟩
    have:=(List.length_filter_lt_length_iff_exists (l:=(List.range ops.size).filter λj=>!X.getD j false) (p:=λj=>!decide (j=i))).2 ⟨i,hmem,by simp⟩;rw[e1];omega
  obtain⟨e,he⟩:∃e,(effs b1)[i]?=some e:=⟨(effs b1)[i]'(by rw[hlen];exact hin),by simp[hlen,hin]⟩;obtain⟨heo,hrT,hrS,_⟩:=key b1 e he;by_cases hi0:i=i0
  ·subst hi0
   have hmask:=Bk (λj=>X.getD j false) ops.toList [] (λj o hj hXj e he hb=>hdc j o hj (by simpa using hXj) e he hb) (λj m h=>by simp at h)
   have hXl:∀j,X.getD j false=true->j<ops.size->∀b b',(effs b)[j]?=(effs b')[j]?:=by
    intro j hj hjs;have hji:j≠i:=by rintro rfl;rw[hXi]at hj;cases hj
    rcases hlater j hji hjs with h|⟨m,hm1,hm2⟩
    ·exact h
    ·have:=hmask j m hm1 hj i hm2
     rw[hXi]at this;cases this
   have hst:∀b,stX (effs b) 0 (λj=>X.getD j false) st=stX (effs b0) 0 (λj=>X.getD j false) st:=by
    intro b;refine Jd (by rw[hlen,hlen]) λj hj=>?_
    rw[Nat.zero_add]at hj;by_cases hjs:j<ops.size
    ·exact hXl j hj hjs b b0
    ·rw[List.getElem?_eq_none (by rw[hlen];omega),List.getElem?_eq_none (by rw[hlen];omega)]
   obtain⟨e0,he0⟩:∃e,(effs b0)[i]?=some e:=⟨(effs b0)[i]'(by rw[hlen];exact hin),by simp[hlen,hin]⟩;obtain⟨heo0,hrT0,hrS0,_⟩:=key b0 e0 he0;obtain⟨hg,hnd,hE⟩:=hlocE e0 he0;rw[hst b1]at hr;have hl:=hE m0 _ _ a w hrT0 hrS0 hr;rw[heo0]at hl hg hnd;unfold wpOpIn;simp only[ho];rw[if_pos (by simp[Region.wanted,hg])];refine F5 (C:=λp:β×Eff=>(effs p.1)[i]?=some p.2) (sE:=λp=>p.2.app (stX (effs b0) 0 (λj=>X.getD j false) st)) hnd hl λa' w' hq=>?_
   obtain⟨⟨b,e'⟩,he',hr'⟩:=hq;exact next b e' he' a' w' (by rw[hst b];exact hr')
  ·have hl:=hloc b1 i e hi0 he m0 _ _ a w hrT hrS hr
   unfold wpOpIn;simp only[ho];rw[heo]at hl;by_cases hw:Region.wanted ops[i] (yielded ops a.tmps)=true
   ·rw[if_pos hw]at hl⊢
    exact E5 hl (next b1 e he)
   ·rw[if_neg hw]at hl⊢
    exact⟨λ_ _=>trivial,next b1 e he _ _ hl⟩
def KT(i:Nat)(ms:List Nat):Bool:=(List.range ms.length).all λj=>!(decide (i<j))||(ms.getD j 0).testBit i
theorem AWP.region_anyE{β:Type}{Q:Exit->St->Prop}{id:Nat}{l:List Oper}{st:St}{effs:β->List Eff}(b0:β)(i0:Nat)(hm:P.follows .mixedOrders=true)(heff:∀b,(effs b).map (·.o)=l)
  (hloc:∀b i e,i≠i0->(effs b)[i]?=some e->HU P nt l.toArray e (stX (effs b) 0 (λj=>decide (j<i)) st))
  (hlocE:∀e,(effs b0)[i0]?=some e->e.o.guard=none/\(∀c,e.o.op≠ .defer c)/\∀m0 T S a w,(∀t∈e.rT,AP T t=AP (stX (effs b0) 0 (λj=>decide (j<i0)) st).T t)->(∀p∈e.rS,S[p]?=(stX (effs b0) 0 (λj=>decide (j<i0)) st).S[p]?)->Rel nt m0 ⟨T,S⟩ a w->e.o.wp P a w (λa' w'=>∃p:β×Eff,(effs p.1)[i0]?=some p.2/\Rel nt m0 (p.2.app ⟨T,S⟩) a' w') (λ_ _ _=>False))
  (hc:∀b,CR (effs b) (BC l [])=true) (hlater:∀j,j≠i0->j<l.length->(∀b b',(effs b)[j]?=(effs b')[j]?)\/∃m:Nat,(BC l [])[j]?=some m/\m.testBit i0=true) (hdn:down l 0=true) (hQ:∀b,Q .normal (stX (effs b) 0 (λ_=>true) st)):AWP ro P nt (.region id l.toArray true) Q st:=by
 intro m0 a w hrel;refine wpIn_region_any hm (NP (m0:=m0) (st:=st) (effs:=effs) (b0:=b0) (i0:=i0) (by simpa using heff) hloc hlocE (by simpa using hc) (by simpa using hlater) (by simpa using hdn) (λb a w h=>⟨_,h,hQ b⟩) _ _ a _ (by simp) ?_ ?_ ⟨b0,?_⟩)
 ·intro j o hj hX
  have:j<l.length:=(List.getElem?_eq_some_iff.1 hj).1;simp[this]at hX
 ·exact Nat.le_trans (List.length_filter_le _ _) (by simp)
 ·have:(λj=>(Array.replicate l.toArray.size false).getD j false)=λ_=>false:=by
   funext j
   simp only[Array.getD_eq_getD_getElem?,Array.getElem?_replicate];split<;>rfl
  rw[this,Dn];exact hrel.draw _
end
section
variable {P:Program}{nt:Nat}{ops:Array Oper}
theorem Do(e0:Eff)(effs:List Eff)(st:St)(i:Nat):stX (e0::effs) 0 (λj=>decide (j<i+1)) st=stX effs 0 (λj=>decide (j<i)) (e0.app st):=by
 show stX effs (0+1) (λj=>decide (j<i+1)) (match decide (0<i+1)with|true=>e0.app st|false=>st)=_
 rw[FA,decide_eq_true (Nat.succ_pos i)];simp
theorem FC(e0:Eff)(effs:List Eff)(st:St):stX (e0::effs) 0 (λ_=>true) st=stX effs 0 (λ_=>true) (e0.app st):=by
 show stX effs (0+1) (λ_=>true) (e0.app st)=_
 rw[FA]
theorem Ep(effs:List Eff)(st:St):stX effs 0 (λj=>decide (j<0)) st=st:=by
 have:(λj:Nat=>decide (j<0))=λ_=>false:=by funext j;simp
 rw[this,Dn]
def SW(P:Program)(nt:Nat){β:Type}(effs:β->List Eff)(i0:Nat)(e:Eff)(st:St):Prop:=
 e.o.guard=none/\(∀c,e.o.op≠ .defer c)/\∀m0 T S a w,(∀t∈e.rT,AP T t=AP st.T t)->(∀p∈e.rS,S[p]?=st.S[p]?)->Rel nt m0 ⟨T,S⟩ a w->e.o.wp P a w (λa' w'=>∃p:β×Eff,(effs p.1)[i0]?=some p.2/\Rel nt m0 (p.2.app ⟨T,S⟩) a' w') (λ_ _ _=>False)
theorem LY{i:Nat}{ms:List Nat}(h:KT i ms=true):∀j,i<j->j<ms.length->∃m:Nat,ms[j]?=some m/\m.testBit i=true:=by
 intro j hij hj;have:=List.all_eq_true.1 h j (List.mem_range.2 hj);refine⟨ms[j],by simp[hj],?_⟩;simpa[hij,List.getD_eq_getElem?_getD,List.getElem?_eq_getElem hj]using this
def RGoE(P:Program)(nt:Nat)(ops:Array Oper)(l:List Oper)(Q:Exit->St->Prop)(rest:List Oper)(acc:List Eff)(st:St):Prop:=
 ∃(β:Type) (b0:β) (i0:Nat) (effs:β->List Eff),(∀b,(effs b).map (·.o)=rest)/\
  (∀b i e,i≠i0->(effs b)[i]?=some e->HU P nt ops e (stX (effs b) 0 (λj=>decide (j<i)) st))/\
  (∀e,(effs b0)[i0]?=some e->SW P nt effs i0 e (stX (effs b0) 0 (λj=>decide (j<i0)) st))/\
  (∀b,CR (acc++effs b) (BC l [])=true)/\(∀i,i≠i0->acc.length+i<(BC l []).length->(∀b b',(effs b)[i]?=(effs b')[i]?)\/∃m:Nat,(BC l [])[acc.length+i]?=some m/\m.testBit (acc.length+i0)=true)/\∀b,Q .normal (stX (effs b) 0 (λ_=>true) st)
theorem Hg{Q:Exit->St->Prop}{id:Nat}{l:List Oper}{st:St}(hm:P.follows .mixedOrders=true)(hdn:down l 0=true)(h:RGoE P nt l.toArray l Q l [] st):AWP ro P nt (.region id l.toArray true) Q st:=by
 obtain⟨β,b0,i0,effs,h1,h3,h4,h5,h6,h7⟩:=h;simp only[List.length_nil,Nat.zero_add]at h6;exact .region_anyE b0 i0 hm h1 h3 h4 (by simpa using h5) (λj hj hl=>h6 j hj (by rw[Jn];exact hl)) hdn h7
theorem Mr{β:Type}{effs:β->List Eff}{ms:List Nat}{n:Nat}(h:KT n ms=true):∀i,i≠0->n+i<ms.length->(∀b b',(effs b)[i]?=(effs b')[i]?)\/∃m:Nat,ms[n+i]?=some m/\m.testBit (n+0)=true:=λi hi hl=>.inr (LY h (n+i) (by omega) hl)
section
variable {Q:Exit->St->Prop}{l rest:List Oper}{acc:List Eff}{st:St}{T:List (Nat×AV)}{S:List AB}{xs:List (Operand×AV)}{rS wS:List (Nat×AB)}{v:AV}{op:Op}{ty:TypeId}{pos:String}{after:Array Edge}{dst:Option Tmp}{f:FuncId}{ats:Array TypeId}
theorem RGoE.step_{o:Oper}{e:Eff}{st':St}(h:Run P nt ops [o] st [e] st')(k:RGoE P nt ops l Q rest (acc++[e]) st'):RGoE P nt ops l Q (o::rest) acc st:=by
 obtain⟨h1,h2,h3⟩:=h.spec;obtain⟨β,b0,i0,effs,k1,k3,k4,k5,k6,k7⟩:=k;have hst:st'=e.app st:=by rw[h1,FC];rfl
 subst hst;simp only[List.map_cons,List.map_nil,List.cons.injEq,and_true]at h2;refine⟨β,b0,i0+1,λb=>e::effs b,λb=>by simp[k1 b,h2],λb i e' hi he=>?_,λe' he=>?_,λb=>by simpa using k5 b,λi hi hl=>?_,λb=>by rw[FC];exact k7 b⟩
 ·cases i with
  |zero=>
   simp at he;subst he;rw[Ep];have:=h3 0 e rfl;rwa[Ep]at this
  |succ i=>
   rw[Do];exact k3 b i e' (by omega) (by simpa using he)
 ·rw[Do]
  obtain⟨a1,a2,a3⟩:=k4 e' (by simpa using he);exact⟨a1,a2,λm0 T S a w h1 h2 h3=>by simpa using a3 m0 T S a w h1 h2 h3⟩
 ·cases i with
  |zero=>exact .inl λb b'=>rfl
  |succ i=>
   have hl':(acc++[e]).length+i<(BC l []).length:=by rw[List.length_append,List.length_singleton];omega
   rcases k6 i (by omega) hl' with h|⟨m,hm1,hm2⟩
   ·exact .inl λb b'=>by simpa using h b b'
   ·rw[List.length_append,List.length_singleton]at hm1 hm2
    exact .inr ⟨m,by rw[<-hm1];congr 1;omega,by rw[<-hm2];congr 1;omega⟩
theorem RGoE.go(k:RGoE P nt ops l Q rest (acc++[⟨⟨dst,op,ty,pos,after,none⟩,Ad xs,rS.map (·.1),v,[]⟩]) ⟨AL T dst v,S⟩)(h:Stp none P ⟨dst,op,ty,pos,after,none⟩ T S xs rS v []:=by exact Fy)(hd:AK dst nt=true:=by rfl):RGoE P nt ops l Q (⟨dst,op,ty,pos,after,none⟩::rest) acc ⟨T,S⟩:=RGoE.step_ (Run.p h hd .nil) k
end
end
end
section
variable {ro:Option Nat}
section
variable {P:Program}{nt:Nat}{ops:Array Oper}{Q:Exit->St->Prop}{l rest:List Oper}{acc:List Eff}{T:List (Nat×AV)}{S:List AB}{f:FuncId}{x0 x1 x2 x3:Operand}{v0 v1 v2 v3 r v:AV}{xs:List (Operand×AV)}{dst:Option Tmp}{ats:Array TypeId}{ty:TypeId}{pos:String}{after:Array Edge}{p1 p2:Nat}{z1 z2:AB}{y1 y2:Nat->AB}
end
end
section
variable {ro:Option Nat}
theorem Spec.drop{P:Program}{f:FuncId}{args:List AV}{S R:List AB}{Q:AV->List AB->Prop}(h:Spec P f args S λr S'=>∃S1,S'=S1++R/\Q r S1):Spec P f args S Q:=
 ⟨h.fn,λSf m N Z vals hZ G hv=>by
  refine(h.run Sf m N Z vals hZ G hv).mono ?_;rintro e w' ⟨v,r,S',m',N',Z',br,he,hw,hm,G',hvv,S1,rfl,hQ⟩;obtain⟨Za,Zb,rfl,h1,h2⟩:=Aw hm;obtain⟨Zc,Zd,rfl,h3,h4⟩:=Aw h1;refine⟨v,r,S1,m',N',Zc++Zb,br,he,hw,by rw[List.map_append,h3,h2],G'.sub ?_,hvv,hQ⟩;rw[List.append_assoc];exact(List.Sublist.refl Zc).append (List.sublist_append_right _ _)⟩
section
variable {P:Program}{nt:Nat}{ops:Array Oper}{Q:Exit->St->Prop}{l rest:List Oper}{acc:List Eff}{T:List (Nat×AV)}{S Sin:List AB}{xs:List (Operand×AV)}{dst:Option Tmp}{f:FuncId}{ats:Array TypeId}{ty:TypeId}{pos:String}{after:Array Edge}
theorem NR{β:Type}{C:β->Prop}{rr vv:β->AV}{So:β->List AB}{rS:List (Nat×AB)}{wE:β->List (Nat×AB)}(b0:β)(hb0:C b0)(h:Spec P f (xs.map (·.2)) Sin λr' S'=>∃b,C b/\r'=rr b/\S'=So b)(hf:∀b,TR (rr b) (vv b) [])(hr:rS.map (·.2)=Sin)(hw:∀b,(wE b).map (·.2)=So b)(hp:∀b,(wE b).map (·.1)=rS.map (·.1))(hnd:(rS.map (·.1)).Nodup)(hG:Gets S rS)(hx:Evs T xs)(ht:Aa xs=true)(hd:AK dst nt=true)(hl:KT acc.length (BC l [])=true)
  (k:∀b,C b->RGo P nt ops l Q rest (acc++[⟨⟨dst,.call ⟨.value (.func f),(xs.map (·.1)).toArray,ats⟩,ty,pos,after,none⟩,Ad xs,rS.map (·.1),vv b,wE b⟩]) ⟨AL T dst (vv b),AM S (wE b)⟩):RGoE P nt ops l Q (⟨dst,.call ⟨.value (.func f),(xs.map (·.1)).toArray,ats⟩,ty,pos,after,none⟩::rest) acc ⟨T,S⟩:=by
 have hk:∀b:{b//C b},∃effs st',Run P nt ops rest ⟨AL T dst (vv b.1),AM S (wE b.1)⟩ effs st' /\CR ((acc++[⟨⟨dst,.call ⟨.value (.func f),(xs.map (·.1)).toArray,ats⟩,ty,pos,after,none⟩,Ad xs,rS.map (·.1),vv b.1,wE b.1⟩])++effs) (BC l [])=true/\Q .normal st':=λb=>k b.1 b.2
 refine⟨{b//C b},⟨b0,hb0⟩,0,λb=>⟨⟨dst,.call ⟨.value (.func f),(xs.map (·.1)).toArray,ats⟩,ty,pos,after,none⟩,Ad xs,rS.map (·.1),vv b.1,wE b.1⟩::(hk b).choose,λb=>?_,λb i e hi he=>?_,λe he=>?_,λb=>?_,Mr hl,λb=>?_⟩
 ·obtain⟨st',h1,h2,h3⟩:=(hk b).choose_spec
  rw[List.map_cons,h1.spec.2.1]
 ·obtain⟨st',h1,h2,h3⟩:=(hk b).choose_spec
  cases i with
  |zero=>exact absurd rfl hi
  |succ i=>
   rw[Do];exact h1.spec.2.2 i e (by simpa using he)
 ·simp at he
  subst he;refine⟨rfl,by simp,λm0 T' S' a w hT hS hr'=>?_⟩;rw[Ep]at hT hS;obtain⟨m,N,Z,rfl,h2,h3,h4⟩:=hr';have h2':Z.map (·.1)=S':=h2;have h4':TRel m0 m nt T' a:=h4
  have hv:VTs m (xs.map (·.2)) (((xs.map (·.1)).toArray).map a.eval).toList []:=by
   have:=Dm (B9 ht) λq hq=>h4'.ev (Gw (st:=⟨T,S⟩) hx hT q hq)
   simpa[Function.comp_def]using this
  have hS0:∀q∈rS,S'[q.1]?=some q.2:=by
   intro q hq;rw[hS q.1 (List.mem_map.2 ⟨q,hq,rfl⟩)];exact hG.all q hq
  have hc:=Fx (dst:=dst) (S:=S') (nw:=λ_=>[]) (gs:=[]) h hf (λ_=>rfl) (by rw[hr,List.append_nil]) (λb=>by rw[hw b,List.append_nil]) hp hnd hS0 (Bf hd) h2' h3 h4' hv;have hw:=E4 (ty:=ty) (pos:=pos) (after:=after) (g:=none) (dst:=dst) (ats:=ats) (K:=λa' w'=>∃b,C b/\Rel nt m0 ⟨AL T' dst (vv b),AM S' (wE b)⟩ a' w') (λ_=>rfl) h.fn hc;refine Oper.wp_mono ?_ hw;rintro a' w' ⟨b,hb,hrel⟩;exact⟨(⟨b,hb⟩,⟨⟨dst,.call ⟨.value (.func f),(xs.map (·.1)).toArray,ats⟩,ty,pos,after,none⟩,Ad xs,rS.map (·.1),vv b,wE b⟩),rfl,hrel⟩
 ·obtain⟨st',h1,h2,h3⟩:=(hk b).choose_spec
  simpa using h2
 ·obtain⟨st',h1,h2,h3⟩:=(hk b).choose_spec
  rw[FC];have:=h1.spec.1;rw[this]at h3;exact h3
theorem Rp{β:Type}{rr vv:β->AV}{s1 s2 s3 s4:β->AB}{p1 p2 p3 p4:Nat}(Y1 Y2 Y3 Y4:Nat)(b0:β)(h:Spec P f [] [] λr' S'=>∃b,r'=rr b/\S'=[s1 b,s2 b,s3 b,s4 b])[hf:∀b,Frz (rr b) (vv b)]
  (k:∀b,RGo P nt ops l Q rest (acc++[⟨⟨dst,.call ⟨.value (.func f),#[],ats⟩,ty,pos,after,none⟩,[],[p1,p2,p3,p4],vv b,[(p1,s1 b),(p2,s2 b),(p3,s3 b),(p4,s4 b)]⟩]) ⟨AL T dst (vv b),AM S [(p1,s1 b),(p2,s2 b),(p3,s3 b),(p4,s4 b)]⟩)
  (hl:KT acc.length (BC l [])=true:=by kernel_rfl) (a1:At S p1 (Y1,.gone):=by exact At.f) (a2:At S p2 (Y2,.gone):=by exact At.f) (a3:At S p3 (Y3,.gone):=by exact At.f) (a4:At S p4 (Y4,.gone):=by exact At.f) (hnd:CO [p1,p2,p3,p4]=true:=by rfl) (hd:AK dst nt=true:=by rfl):
  RGoE P nt ops l Q (⟨dst,.call ⟨.value (.func f),#[],ats⟩,ty,pos,after,none⟩::rest) acc ⟨T,S⟩:=
 NR (xs:=[]) (C:=λ_=>True) (rr:=rr) (vv:=vv) (So:=λb=>[s1 b,s2 b,s3 b,s4 b]) (rS:=[(p1,(Y1,.gone)),(p2,(Y2,.gone)),(p3,(Y3,.gone)),(p4,(Y4,.gone))]) (wE:=λb=>[(p1,s1 b),(p2,s2 b),(p3,s3 b),(p4,s4 b)]) b0 trivial
  (Spec.drop (R:=[(Y1,.gone),(Y2,.gone),(Y3,.gone),(Y4,.gone)]) ((h.beside [(Y1,.gone),(Y2,.gone),(Y3,.gone),(Y4,.gone)]).mono λr' S' ⟨S1,e1,b,e2,e3⟩=>⟨S1,e1,b,trivial,e2,e3⟩)) (λb=>.fz) rfl (λ_=>rfl) (λ_=>rfl) (B5 hnd) (.cons a1 (.cons a2 (.cons a3 (.cons a4 .nil)))) .nil rfl hd hl (λb _=>k b)
end
end
theorem Good.addUsed{m0 m:Mem}{N X:Nat}{Z:Zs}{br:List Nat}(G:Good m0 m N Z br)(hU:m.U X)(hk:X∉Z.keys):Good m0 m N (((X,.used),[])::Z) br:=by
 refine⟨λq hq=>?_,by simpa[Zs.own]using G.own,by simpa[Zs.own]using G.blk,G.frz,List.nodup_cons.2 ⟨hk,G.keys⟩,λx hx=>?_,G.usedN,G.le,G.os,G.tape,G.output,G.size⟩
 ·rcases List.mem_cons.1 hq with rfl|hq
  ·exact⟨rfl,hU⟩
  ·exact G.obj q hq
 ·rcases List.mem_cons.1 hx with rfl|hx
  ·exact G.usedN _ hU
  ·exact G.keyN x hx
theorem Spec.used2{P:Program}{f:FuncId}{args:List AV}{X Y:Nat}{t t2:TypeId}{sz sz2:Nat}{l l2:List AV}{r:AV}(h:Spec P f args [(X,.row t sz l),(Y,.row t2 sz2 l2)] λr' S'=>r'=r/\S'=[]):Spec P f args [(X,.row t sz l),(Y,.row t2 sz2 l2)] λr' S'=>r'=r/\S'=[(X,.used),(Y,.used)]:=
 ⟨h.fn,λSf m N Z vals h1 h2 h3=>(h.run Sf m N Z vals h1 h2 h3).mono λe w' ⟨v,r',S',m',N',Z',br,a,b,hm,G,e',hr,hS⟩=>by
  subst hS;simp only[List.nil_append]at hm;have hk:∀Z1:Zs,Z1.keys=(Z1.map (·.1)).map (·.1):=λZ1=>by simp[Zs.keys]
  have hkeys:=h2.keys;rw[hk,h1]at hkeys;simp only[List.cons_append,List.nil_append,List.map_cons,List.nodup_cons,List.mem_cons,not_or]at hkeys;obtain⟨⟨hXY,hX⟩,hY,_⟩:=hkeys
  have hUX:m.U X:=by
   have:(X,AO.row t sz l)∈Z.map (·.1):=by rw[h1];simp
   obtain⟨z,hz,e1⟩:=List.mem_map.1 this;have hO:=h2.obj z hz;rw[e1]at hO;exact hO.1
  have hUY:m.U Y:=by
   have:(Y,AO.row t2 sz2 l2)∈Z.map (·.1):=by rw[h1];simp
   obtain⟨z,hz,e1⟩:=List.mem_map.1 this;have hO:=h2.obj z hz;rw[e1]at hO;exact hO.1
  have nY:Y∉Z'.keys:=by rw[hk,hm];exact hY
  have G1:=G.addUsed (G.le.U Y hUY) nY
  have nX:X∉Zs.keys (((Y,AO.used),[])::Z'):=by
   rw[hk,List.map_cons,hm];simp only[List.map_cons,List.mem_cons,not_or];exact⟨hXY,hX⟩
  exact⟨v,r',[(X,.used),(Y,.used)],m',N',((X,.used),[])::((Y,.used),[])::Z',br,a,b,by simp[hm],G1.addUsed (G.le.U X hUX) nX,e',hr,rfl⟩⟩
section
variable {ro:Option Nat}
def F8(n:Nat)(e:Eff):Eff:=⟨e.o,e.rT,e.rS.filter λp=>Nat.blt p n,e.v,e.wS⟩
theorem IE{n:Nat}{a b:List Nat}(h:∀p∈a,p<n):HY a (b.filter λp=>Nat.blt p n)=HY a b:=by
 have hb:∀p,p<n->Nat.blt p n=true:=λp h=>by simpa[Nat.blt_eq]using h
 apply Bool.eq_iff_iff.2;simp only[HY,List.any_eq_true];constructor
 ·rintro⟨x,hx,y,hy,e⟩
  exact⟨x,hx,y,(List.mem_filter.1 hy).1,e⟩
 ·rintro⟨x,hx,y,hy,e⟩
  have e':=Nat.eq_of_beq_eq_true e;subst e';exact⟨x,hx,x,List.mem_filter.2 ⟨hy,hb x (h x hx)⟩,e⟩
def OX(n:Nat)(e:Eff):Bool:=e.wS.all λq=>Nat.blt q.1 n
theorem Jo{n:Nat}{e:Eff}(h:OX n e=true):∀p∈e.wS.map (·.1),p<n:=by
 intro p hp;obtain⟨q,hq,rfl⟩:=List.mem_map.1 hp;have:=List.all_eq_true.1 h q hq;simpa[Nat.blt_eq]using this
theorem L6{n:Nat}{a b:Eff}(ha:OX n a=true)(hb:OX n b=true):BN (F8 n a) (F8 n b)=BN a b:=by
 unfold BN;show(LQ a.o.dst b.rT||LQ b.o.dst a.rT||LC a.o.dst b.o.dst||HY (a.wS.map (·.1)) (b.rS.filter λp=>Nat.blt p n)||HY (b.wS.map (·.1)) (a.rS.filter λp=>Nat.blt p n)||HY (a.wS.map (·.1)) (b.wS.map (·.1)))=_
 rw[IE (Jo ha),IE (Jo hb)]
theorem Kg{n:Nat}{effs:List Eff}{ms:List Nat}(h:∀e∈effs,OX n e=true)(hc:CR (effs.map (F8 n)) ms=true):CR effs ms=true:=by
 unfold CR at hc⊢;rw[List.length_map]at hc;rw[List.all_eq_true]at hc⊢;intro j hj;have h1:=hc j hj;rw[List.all_eq_true]at h1⊢;intro i hi;have h2:=h1 i hi;rw[List.getElem?_map,List.getElem?_map]at h2;cases ei:effs[i]? with
 |none=>rw[ei]at h2;simp at h2
 |some a=>
  cases ej:effs[j]? with
  |none=>rw[ei,ej]at h2;simp at h2
  |some b=>
   rw[ei,ej]at h2;cases em:ms[j]? with
   |none=>rw[em]at h2;simp at h2
   |some m=>
    rw[em]at h2;simp only[Option.map_some]at h2⊢;rwa[L6 (h a (List.mem_of_getElem? ei)) (h b (List.mem_of_getElem? ej))]at h2
section
variable {P:Program}{nt:Nat}{ops:Array Oper}{Q:Exit->St->Prop}{l rest:List Oper}{acc:List Eff}{st:St}{T:List (Nat×AV)}{S:List AB}{xs:List (Operand×AV)}{rS wS:List (Nat×AB)}{v:AV}{op:Op}{ty:TypeId}{pos:String}{after:Array Edge}{dst:Option Tmp}{n:Nat}
def RGoT(n:Nat)(P:Program)(nt:Nat)(ops:Array Oper)(l:List Oper)(Q:Exit->St->Prop)(rest:List Oper)(acc:List Eff)(st:St):Prop:=
 ∃effs st',Run P nt ops rest st effs st' /\(∀e∈effs,OX n e=true)/\CR (acc++effs.map (F8 n)) (BC l [])=true/\Q .normal st'
theorem En(n:Nat){id:Nat}(hm:P.follows .mixedOrders=true)(hdn:down l 0=true)(h:RGoT n P nt l.toArray l Q l [] st):AWP ro P nt (.region id l.toArray true) Q st:=by
 obtain⟨effs,st',h1,h2,h3,h4⟩:=h;exact .region_run hm hdn ⟨effs,st',h1,Kg h2 h3,h4⟩
theorem RGoT.nil(hc:CR acc (BC l [])=true)(k:Q .normal st):RGoT n P nt ops l Q [] acc st:=⟨[],st,.nil,by simp,by simpa using hc,k⟩
theorem RGoT.step_{o:Oper}{e:Eff}{st':St}(h:∀{effs st''},Run P nt ops rest st' effs st'' ->Run P nt ops (o::rest) st (e::effs) st'')(hw:OX n e=true)(k:RGoT n P nt ops l Q rest (acc++[F8 n e]) st'):RGoT n P nt ops l Q (o::rest) acc st:=by
 obtain⟨effs,st'',h1,h2,h3,h4⟩:=k;refine⟨_,_,h h1,λe' he=>?_,by simpa using h3,h4⟩;rcases List.mem_cons.1 he with rfl|he
 ·exact hw
 ·exact h2 e' he
theorem RGoT.go(k:RGoT n P nt ops l Q rest (acc++[F8 n ⟨⟨dst,op,ty,pos,after,none⟩,Ad xs,rS.map (·.1),v,[]⟩]) ⟨AL T dst v,S⟩)(h:Stp none P ⟨dst,op,ty,pos,after,none⟩ T S xs rS v []:=by exact Fy)(hd:AK dst nt=true:=by rfl):RGoT n P nt ops l Q (⟨dst,op,ty,pos,after,none⟩::rest) acc ⟨T,S⟩:=RGoT.step_ (λr=>Run.p h hd r) rfl k
theorem RGoT.goS(k:RGoT n P nt ops l Q rest (acc++[F8 n ⟨⟨dst,op,ty,pos,after,none⟩,Ad xs,rS.map (·.1),v,wS⟩]) ⟨AL T dst v,AM S wS⟩)(h:Stp none P ⟨dst,op,ty,pos,after,none⟩ T S xs rS v wS:=by exact G8)(hw:(wS.all λq=>Nat.blt q.1 n)=true:=by rfl)(hd:AK dst nt=true:=by rfl):RGoT n P nt ops l Q (⟨dst,op,ty,pos,after,none⟩::rest) acc ⟨T,S⟩:=RGoT.step_ (λr=>Run.s h hd r) hw k
end
section
variable {P:Program}{ty:TypeId}{pos:String}{after:Array Edge}{g:Option (Nat×Bool)}{dst:Option Tmp}{xs:List (Operand×AV)}{f:FuncId}{ats:Array TypeId}{r v:AV}{Sin:List AB}{rS:List (Nat×AB)}
theorem HF:∀(rS:List (Nat×AB)) (S:List AB),(∀q∈rS,S[q.1]?=some q.2)->AM S rS=S
 |[],S,_=>rfl
 |q::rS,S,h=>by
  have h1:=h q (by simp);obtain⟨h2,h3⟩:=List.getElem?_eq_some_iff.1 h1;have e:S.set q.1 q.2=S:=by rw[<-h3];exact List.set_getElem_self h2
  show AM (S.set q.1 q.2) rS=S
  rw[e];exact HF rS S λq' hq=>h q' (by simp[hq])
theorem OpT.callK(h:Spec P f (xs.map (·.2)) Sin λr' S'=>r'=r/\S'=Sin)(ht:Aa xs=true)(hT:TR r v [])(hr:rS.map (·.2)=Sin)(hnd:(rS.map (·.1)).Nodup):
  OpT P ⟨dst,.call ⟨.value (.func f),(xs.map (·.1)).toArray,ats⟩,ty,pos,after,g⟩ xs rS v []:=by
 intro nt m0 T S a w hx hS hd hrel;have:=DL (ty:=ty) (pos:=pos) (after:=after) (g:=g) (dst:=dst) (ats:=ats) (wS:=rS) (news:=[]) h ht hT (by rw[hr];simp[BV]) (by rw[hr];simp) rfl hnd nt m0 T S a w hx hS hd hrel;rw[HF rS S hS]at this;exact this
variable {n nt:Nat}{ops:Array Oper}{Q:Exit->St->Prop}{l rest:List Oper}{acc:List Eff}{T:List (Nat×AV)}{L R:List AB}{S:List AB}
theorem RGoT.callK(h:Spec P f (xs.map (·.2)) Sin λr' S'=>r'=r/\S'=Sin)(hf:TR r v [])(hS:S=L++(Sin++R))(hn:n<=L.length)(hx:Evs T xs)(ht:Aa xs=true)(hd:AK dst nt=true)
  (k:RGoT n P nt ops l Q rest (acc++[⟨⟨dst,.call ⟨.value (.func f),(xs.map (·.1)).toArray,ats⟩,ty,pos,after,none⟩,Ad xs,[],v,[]⟩]) ⟨AL T dst v,S⟩):RGoT n P nt ops l Q (⟨dst,.call ⟨.value (.func f),(xs.map (·.1)).toArray,ats⟩,ty,pos,after,none⟩::rest) acc ⟨T,S⟩:=by
 have hG:Gets S (JM L.length Sin):=by rw[hS];exact Js L Sin R
 have hop:OpT P ⟨dst,.call ⟨.value (.func f),(xs.map (·.1)).toArray,ats⟩,ty,pos,after,none⟩ xs (JM L.length Sin) v []:=.callK h ht hf (Lg _ _) (by rw[IW];exact List.nodup_range')
 have hst:F8 n ⟨⟨dst,.call ⟨.value (.func f),(xs.map (·.1)).toArray,ats⟩,ty,pos,after,none⟩,Ad xs,(JM L.length Sin).map (·.1),v,[]⟩=⟨⟨dst,.call ⟨.value (.func f),(xs.map (·.1)).toArray,ats⟩,ty,pos,after,none⟩,Ad xs,[],v,[]⟩:=by
  unfold F8;dsimp only;rw[IW]
  have:(List.range' L.length Sin.length).filter (λp=>Nat.blt p n)=[]:=by
   rw[List.filter_eq_nil_iff];intro p hp;rw[List.mem_range'_1]at hp;simp only[Nat.blt_eq];omega
  rw[this]
 refine RGoT.step_ (e:=⟨⟨dst,.call ⟨.value (.func f),(xs.map (·.1)).toArray,ats⟩,ty,pos,after,none⟩,Ad xs,(JM L.length Sin).map (·.1),v,[]⟩) (λr=>Run.step rfl hop hx hG hd r) rfl ?_;rw[hst];exact k
end
end
section
variable {ro:Option Nat}
open Go.RowKit
section
variable {P:Program}{nt:Nat}{ops:Array Oper}
theorem PJ{effs:List Eff}{st:St}{X:Array Bool}{i:Nat}(heff:effs.map (·.o)=ops.toList)(hc:CR effs (BC ops.toList [])=true)(hX:X.size=ops.size)(hdc:∀j o,ops.toList[j]?=some o->X.getD j false=true->∀e∈o.after.toList,Region.binds .any e=true->X.getD e.on false=true)(hin:i<ops.size)(hXi:X.getD i false=false)(hpre:∀e∈(ops[i]).after.toList,Region.binds .any e=true->X.getD e.on false=true){e:Eff}(he:effs[i]?=some e):
  e.o=ops[i]/\(∀t∈e.rT,AP (stX effs 0 (λj=>X.getD j false) st).T t=AP (stX effs 0 (λj=>decide (j<i)) st).T t)/\(∀p∈e.rS,(stX effs 0 (λj=>X.getD j false) st).S[p]?=(stX effs 0 (λj=>decide (j<i)) st).S[p]?)/\
   (∀t,AP (stX effs 0 (λj=>(X.setIfInBounds i true).getD j false) st).T t=AP (e.app (stX effs 0 (λj=>X.getD j false) st)).T t)/\(stX effs 0 (λj=>(X.setIfInBounds i true).getD j false) st).S=(e.app (stX effs 0 (λj=>X.getD j false) st)).S:=by
 have hiX:i<X.size:=by omega
 have heo:e.o=ops[i]:=by
  have h1:(effs.map (·.o))[i]?=some e.o:=by simp[he]
  rw[heff]at h1;simpa[hin]using h1.symm
 have hmask:=Bk (λj=>X.getD j false) ops.toList [] (λj o hj hXj e he hb=>hdc j o hj (by simpa using hXj) e he hb) (λj m h=>by simp at h)
 have hcomp:∀a b ea eb,a<b->effs[a]?=some ea->effs[b]?=some eb->BN ea eb=true->∃m:Nat,(BC ops.toList [])[b]?=some m/\m.testBit a=true:=by
  intro a b ea eb hab hea heb hcl;have h1:=List.all_eq_true.1 (hc) b (List.mem_range.2 (List.getElem?_eq_some_iff.1 heb).1);have h2:=List.all_eq_true.1 h1 a (List.mem_range.2 hab);simp only[hea,heb]at h2;cases hm:(BC ops.toList [])[b]? with
  |none=>rw[hm]at h2;cases h2
  |some m=>rw[hm]at h2;exact⟨m,rfl,by simpa[hcl]using h2⟩
 have hbefore:∀j ej,j<i->effs[j]?=some ej->BN ej e=true->X.getD j false=true:=by
  intro j ej hj hej hcl;obtain⟨m,hm1,hm2⟩:=hcomp j i ej e hj hej he hcl
  have hcl2:=Bk (λk=>X.getD k false||decide (k=i)) ops.toList [] (λk o hk hXk ee hee hb=>by
   simp only[List.length_nil,Nat.zero_add,Bool.or_eq_true,decide_eq_true_eq]at hXk⊢;rcases hXk with h|h
   ·exact .inl (hdc k o hk h ee hee hb)
   ·subst h
    have:o=ops[k]:=by simpa[hin]using hk.symm
    subst this;exact .inl (hpre ee hee hb)) (λj m h=>by simp at h) i m hm1 (by simp) j hm2
  simp only[Bool.or_eq_true,decide_eq_true_eq]at hcl2;rcases hcl2 with h|h
  ·exact h
  ·omega
 have hafter:∀j ej,i<j->effs[j]?=some ej->BN e ej=true->X.getD j false=false:=by
  intro j ej hj hej hcl;obtain⟨m,hm1,hm2⟩:=hcomp i j e ej hj he hej hcl;cases hx:X.getD j false with
  |false=>rfl
  |true=>
   have:=hmask j m hm1 hx i hm2;rw[hXi]at this;cases this
 have hrT:∀t∈e.rT,AP (stX effs 0 (λj=>X.getD j false) st).T t=AP (stX effs 0 (λj=>decide (j<i)) st).T t:=by
  intro t ht;refine CF (λj ej hej hd=>?_) rfl;rw[Nat.zero_add];rcases Nat.lt_trichotomy j i with h|h|h
  ·rw[hbefore j ej h hej ?_]
   ·simp[h]
   ·cases hcl:BN ej e with
    |true=>rfl
    |false=>exact absurd ht ((Ao hcl).1 t hd)
  ·subst h
   rw[hXi];simp
  ·rw[hafter j ej h hej ?_]
   ·simp;omega
   ·cases hcl:BN e ej with
    |true=>rfl
    |false=>exact absurd ht ((Ao hcl).2.1 t hd)
 have hrS:∀p∈e.rS,(stX effs 0 (λj=>X.getD j false) st).S[p]?=(stX effs 0 (λj=>decide (j<i)) st).S[p]?:=by
  intro p hp;refine Ck (λj ej hej hd=>?_) rfl rfl;rw[Nat.zero_add];obtain⟨q,hq,rfl⟩:=hd;rcases Nat.lt_trichotomy j i with h|h|h
  ·rw[hbefore j ej h hej ?_]
   ·simp[h]
   ·cases hcl:BN ej e with
    |true=>rfl
    |false=>exact absurd hp ((Ao hcl).2.2.2.1 q hq)
  ·subst h
   rw[hXi];simp
  ·rw[hafter j ej h hej ?_]
   ·simp;omega
   ·cases hcl:BN e ej with
    |true=>rfl
    |false=>exact absurd hp ((Ao hcl).2.2.2.2.1 q hq)
 have hX':∀k,(X.setIfInBounds i true).getD k false=(X.getD k false||decide (k=i)):=by
  intro k;simp only[Array.getD_eq_getD_getElem?,Array.getElem?_setIfInBounds];by_cases hk:i=k
  ·subst hk;simp[hiX]
  ·simp[hk,Ne.symm hk]
 have hT:∀t,AP (stX effs 0 (λj=>(X.setIfInBounds i true).getD j false) st).T t=AP (e.app (stX effs 0 (λj=>X.getD j false) st)).T t:=by
  intro t;by_cases hd:e.o.dst=some t
  ·rw[GA (i:=i) (e:=e) (t:=t) he (by rw[Nat.zero_add,hX'];simp) hd ?_]
   ·simp[Eff.app,hd,AL,AT]
   ·intro j ej hj hej hXj hdj
    rw[Nat.zero_add,hX']at hXj
    have hXj':X.getD j false=true:=by
     simp only[Bool.or_eq_true,decide_eq_true_eq]at hXj;rcases hXj with h|h
     ·exact h
     ·omega
    have:=hafter j ej hj hej (by
     cases hcl:BN e ej with
     |true=>rfl
     |false=>exact absurd hdj ((Ao hcl).2.2.1 t hd))
    rw[hXj']at this;cases this
  ·have ap:AP (e.app (stX effs 0 (λj=>X.getD j false) st)).T t=AP (stX effs 0 (λj=>X.getD j false) st).T t:=by
    simp only[Eff.app];cases hdd:e.o.dst with
    |none=>rfl
    |some d=>rw[AL,AT,if_neg];exact λh=>hd (by rw[hdd,h])
   rw[ap];refine CF (λj ej hej hdj=>?_) rfl;rw[Nat.zero_add,hX']
   have:j≠i:=by
    rintro rfl;rw[he]at hej;injection hej with hej
    subst hej;exact hd hdj
   simp[this]
 have hS:(stX effs 0 (λj=>(X.setIfInBounds i true).getD j false) st).S=(e.app (stX effs 0 (λj=>X.getD j false) st)).S:=by
  refine List.ext_getElem? λp=>?_
  by_cases hd:∃q∈e.wS,q.1=p
  ·rw[FB (i:=i) (e:=e) (p:=p) he (by rw[Nat.zero_add,hX'];simp) hd ?_ (stX effs 0 (λj=>X.getD j false) st).S (F9 ..)]
   ·rfl
   ·intro j ej hj hej hXj hdj
    rw[Nat.zero_add,hX']at hXj
    have hXj':X.getD j false=true:=by
     simp only[Bool.or_eq_true,decide_eq_true_eq]at hXj;rcases hXj with h|h
     ·exact h
     ·omega
    obtain⟨q,hq,hqp⟩:=hd;obtain⟨q',hq',hqp'⟩:=hdj
    have:=hafter j ej hj hej (by
     cases hcl:BN e ej with
     |true=>rfl
     |false=>exact absurd (hqp.trans hqp'.symm) ((Ao hcl).2.2.2.2.2 q hq q' hq'))
    rw[hXj']at this;cases this
  ·have ap:(e.app (stX effs 0 (λj=>X.getD j false) st)).S[p]?=(stX effs 0 (λj=>X.getD j false) st).S[p]?:=DG (λq hq h=>hd ⟨q,hq,h⟩) _
   rw[ap];refine Ck (λj ej hej hdj=>?_) rfl rfl;rw[Nat.zero_add,hX']
   have:j≠i:=by
    rintro rfl;rw[he]at hej;injection hej with hej
    subst hej;exact hd hdj
   simp[this]
 exact⟨heo,hrT,hrS,hT,hS⟩
theorem O4(hdn:down ops.toList 0=true){X:Array Bool}(hX:X.size=ops.size)(hnil:Region.ready .any ops X=[]):∀j,j<ops.size->X.getD j false=true:=by
 intro j
 induction j using Nat.strongRecOn with
 |_ j ih=>
  intro hj;cases hx:X.getD j false with
  |true=>rfl
  |false=>
   exfalso
   have:j∈Region.ready .any ops X:=by
    refine List.mem_filter.2 ⟨List.mem_range.2 hj,?_⟩;have ho:ops[j]?=some ops[j]:=by simp[hj]
    have hx':X.getD j true=false:=by
     have hjX:j<X.size:=by omega
     simp only[Array.getD_eq_getD_getElem?,Array.getElem?_eq_getElem hjX,Option.getD_some]at hx⊢;exact hx
    simp only[hx',ho,Option.map_some,Option.getD_some,Bool.not_false,Bool.true_and];rw[Array.all_eq_true'];intro e he;cases hb:Region.binds .any e with
    |false=>simp
    |true=>
     have hlt:=Dl _ 0 hdn j ops[j] (by simp[hj]) e (by simpa using he) hb;have:=ih e.on (by omega) (by omega);simpa using this
   rw[hnil]at this;cases this
theorem NV{F:Fence}{n:Nat}{o:Oper}{a:Act}{w:World}{K K':Act->World->Prop}{Q Q':Exit->Act->World->Prop}(hK:∀a w,K a w->K' a w)(hQ:∀e a w,Q e a w->e= .normal)(hh:o.wpIn F n P a w K Q):o.wpIn F n P a w K' Q':=by
 unfold Oper.wpIn at*;refine⟨hh.1,?_⟩;have hh:=hh.2;generalize (o.semAt F.round a.eval).run P w=r at*;cases r with
 |ok x w'=>
  cases x<;>simp only[Oper.uponIn]at hh⊢<;>
   first
    |exact hK _ _ hh
    |exact⟨hh.1,CallsIn.mono hh.2 (λe w'' he=>by
      cases e with
      |returned v=>exact hK _ _ he
      |panicked c=>exact absurd (hQ _ _ _ he) (by simp)
      |outgrown=>obtain⟨a2,w2,h2⟩:=he;exact absurd (hQ _ _ _ h2) (by simp))⟩
    |exact⟨hh.1,RowsIn.mono hh.2 (λ_ _ he=>hK _ _ he)⟩
    |exact⟨hh.1,RoundIn.mono hh.2 (λe w'' he=>by
      cases e with
      |returned v=>exact hK _ _ he
      |panicked c=>exact absurd (hQ _ _ _ he) (by simp)
      |outgrown=>obtain⟨a2,w2,h2⟩:=he;exact absurd (hQ _ _ _ h2) (by simp))⟩
 |halt x w'=>
  cases x<;>simp only[Oper.uponIn]at hh⊢<;>
   first
    |exact hh
    |exact absurd (hQ _ _ _ hh) (by simp)
structure St.LeH(st st':St):Prop where
 T:∀d v,AP st'.T d=some v->AP st.T d=some v
 S:st'.S.Sublist st.S
theorem Rel.weakH{m0:Mem}{st st':St}{a:Act}{w:World}(h:Rel nt m0 st a w)(k:st.LeH st'):Rel nt m0 st' a w:=(Bu (T':=st'.T) h k.T).sub k.S
abbrev Hv:Type:=Nat×Oper×List Nat×List (Nat×AV)
def HC(ro:Option Nat)(P:Program)(nt:Nat)(Q:Exit->St->Prop)(Tf:List (Nat×AV))(Ff:List AB):List Hv->List (Nat×AV)->List AB->Prop
 |[],V,R=>Q .normal ⟨V++Tf,Ff++R⟩
 |q::hs,V,R=>∀T F,(∀t∈q.2.2.1,AP T t=AP (V++q.2.2.2) t)->AOps ro P nt #[] (λex st'=>ex= .normal/\∃u R',st'.LeH ⟨AL T q.2.1.dst u,F++R'⟩/\HC ro P nt Q Tf Ff hs (AL V q.2.1.dst u) R') [q.2.1] ⟨T,F++R⟩
theorem K9{wS:List (Nat×AB)}:∀{F R:List AB},(∀q∈wS,q.1<F.length)->AM (F++R) wS=AM F wS++R:=by
 induction wS with
 |nil=>intro F R _;rfl
 |cons q r ih=>
  intro F R h;show AM ((F++R).set q.1 q.2) r=AM (F.set q.1 q.2) r++R
  rw[List.set_append_left _ _ (h q (by simp))];exact ih λq' hq'=>by rw[List.length_set];exact h q' (by simp[hq'])
theorem NO{m0:Mem}{st:St}{effs:List Eff}{hv:List Hv}{Q:Exit->St->Prop}{R0:List AB}(heff:effs.map (·.o)=ops.toList)(hc:CR effs (BC ops.toList [])=true)(hdn:down ops.toList 0=true)
  (hvi:∀q∈hv,∃e,effs[q.1]?=some e/\e.o=q.2.1/\e.rT=q.2.2.1/\(stX effs 0 (λj=>decide (j<q.1)) st).T=q.2.2.2/\e.wS=[]/\e.o.guard=none)
  (hch:hv.Pairwise λp q=>p.1<q.1/\∃m,(BC ops.toList [])[q.1]?=some m/\m.testBit p.1=true)
  (hli:∀i e,(∀q∈hv,q.1≠i)->effs[i]?=some e->HU P nt ops e (stX effs 0 (λj=>decide (j<i)) st)/\(∀p∈e.rS,p<st.S.length)/\(∀q∈e.wS,q.1<st.S.length)/\∀q∈hv,∀d,q.2.1.dst=some d->d∉e.rT/\e.o.dst≠some d):
  ∀(fuel:Nat) (X:Array Bool) (a:Act) (w:World),X.size=ops.size->(∀j o,ops.toList[j]?=some o->X.getD j false=true->∀e∈o.after.toList,Region.binds .any e=true->X.getD e.on false=true)->
   ((List.range ops.size).filter λj=>!X.getD j false).length<=fuel->
   (∃dn hs V R,hv=dn++hs/\(∀q∈dn,X.getD q.1 false=true)/\(∀q∈hs,X.getD q.1 false=false)/\(∀d,AP V d≠none->∃q∈dn,q.2.1.dst=some d)/\HC ro P nt Q (stX effs 0 (λ_=>true) st).T (stX effs 0 (λ_=>true) st).S hs V R/\Rel nt m0 ⟨V++(stX effs 0 (λj=>X.getD j false) st).T,(stX effs 0 (λj=>X.getD j false) st).S++R⟩ a w)->
   wpAnyIn (FW ro) 0 P .any ops (λe a' w'=>∃st',Rel nt m0 st' a' w' /\Q e st') fuel X a w:=by
 have hlen:effs.length=ops.size:=by have:=congrArg List.length heff;simpa using this
 have hvlt:∀q∈hv,q.1<ops.size:=λq hq=>by
  obtain⟨e,he,_⟩:=hvi q hq;rw[<-hlen];exact(List.getElem?_eq_some_iff.1 he).1
 have done:∀(X:Array Bool) a w,(∀j,j<ops.size->X.getD j false=true)->(∃dn hs V R,hv=dn++hs/\(∀q∈dn,X.getD q.1 false=true)/\(∀q∈hs,X.getD q.1 false=false)/\(∀d,AP V d≠none->∃q∈dn,q.2.1.dst=some d)/\HC ro P nt Q (stX effs 0 (λ_=>true) st).T (stX effs 0 (λ_=>true) st).S hs V R/\Rel nt m0 ⟨V++(stX effs 0 (λj=>X.getD j false) st).T,(stX effs 0 (λj=>X.getD j false) st).S++R⟩ a w)->∃st',Rel nt m0 st' a w/\Q .normal st':=by
  rintro X a w hall ⟨dn,hs,V,R,h1,h2,h3,h4,h5,hr⟩;cases hs with
  |cons q hs=>
   have hq:q∈hv:=by rw[h1];simp
   have:=h3 q (by simp);rw[hall q.1 (hvlt q hq)]at this;cases this
  |nil=>
   have hT:∀t,AP (stX effs 0 (λj=>X.getD j false) st).T t=AP (stX effs 0 (λ_=>true) st).T t:=λt=>
    CF (λj e he _=>by rw[Nat.zero_add];exact hall j (by rw[<-hlen];exact(List.getElem?_eq_some_iff.1 he).1)) rfl
   have hS:(stX effs 0 (λj=>X.getD j false) st).S=(stX effs 0 (λ_=>true) st).S:=List.ext_getElem? λp=>
    Ck (λj e he _=>by rw[Nat.zero_add];exact hall j (by rw[<-hlen];exact(List.getElem?_eq_some_iff.1 he).1)) rfl rfl
   have hr':Rel nt m0 ⟨V++(stX effs 0 (λ_=>true) st).T,(stX effs 0 (λj=>X.getD j false) st).S++R⟩ a w:=Bu hr λd v h=>by
    rw[Bn]at h⊢;rw[hT];exact h
   rw[hS]at hr';exact⟨_,hr',h5⟩
 intro fuel
 induction fuel with
 |zero=>
  intro X a w hX hdc hf hr
  have hall:∀j,j<ops.size->X.getD j false=true:=by
   intro j hj;have hnil:=List.eq_nil_of_length_eq_zero (Nat.le_zero.1 hf);cases hx:X.getD j false with
   |true=>rfl
   |false=>
    have:j∈(List.range ops.size).filter λj=>!X.getD j false:=List.mem_filter.2 ⟨List.mem_range.2 hj,by simp only[hx,Bool.not_false]⟩
    rw[hnil]at this;cases this
  refine⟨List.filter_eq_nil_iff.2 λj hj=>?_,done X a w hall hr⟩;have hj':=List.mem_range.1 hj;have:=hall j hj';have hjX:j<X.size:=by omega
  simp only[Array.getD_eq_getD_getElem?,Array.getElem?_eq_getElem hjX,Option.getD_some]at this⊢;simp[this]
 |succ fuel ih=>
  intro X a w hX hdc hf hinv;refine⟨λhnil=>done X a w (O4 hdn hX hnil) hinv,λi hi=>?_⟩;obtain⟨hi1,hi2⟩:=List.mem_filter.1 hi;have hin:=List.mem_range.1 hi1;have ho:ops[i]?=some ops[i]:=by simp[hin]
  have hiX:i<X.size:=by omega
  simp only[ho,Option.map_some,Option.getD_some,Bool.and_eq_true]at hi2
  have hXi:X.getD i false=false:=by
   have h:=hi2.1;simp only[Array.getD_eq_getD_getElem?,Array.getElem?_eq_getElem hiX,Option.getD_some]at h⊢;simpa using h
  have hpre:∀e∈(ops[i]).after.toList,Region.binds .any e=true->X.getD e.on false=true:=by
   intro e he hb;have:=Array.all_eq_true'.1 hi2.2 e (by simpa using he);simpa[hb]using this
  obtain⟨e,he⟩:∃e,effs[i]?=some e:=⟨effs[i]'(by rw[hlen];exact hin),by simp[hlen,hin]⟩;obtain⟨heo,hrT,hrS,hT2,hS2⟩:=PJ heff hc hX hdc hin hXi hpre he
  have hX':∀k,(X.setIfInBounds i true).getD k false=(X.getD k false||decide (k=i)):=by
   intro k;simp only[Array.getD_eq_getD_getElem?,Array.getElem?_setIfInBounds];by_cases hk:i=k
   ·subst hk;simp[hiX]
   ·simp[hk,Ne.symm hk]
  have next:∀a w,(∃dn hs V R,hv=dn++hs/\(∀q∈dn,(X.setIfInBounds i true).getD q.1 false=true)/\(∀q∈hs,(X.setIfInBounds i true).getD q.1 false=false)/\(∀d,AP V d≠none->∃q∈dn,q.2.1.dst=some d)/\HC ro P nt Q (stX effs 0 (λ_=>true) st).T (stX effs 0 (λ_=>true) st).S hs V R/\Rel nt m0 ⟨V++(stX effs 0 (λj=>(X.setIfInBounds i true).getD j false) st).T,(stX effs 0 (λj=>(X.setIfInBounds i true).getD j false) st).S++R⟩ a w)->wpAnyIn (FW ro) 0 P .any ops (λe a' w'=>∃st',Rel nt m0 st' a' w' /\Q e st') fuel (X.setIfInBounds i true) a w:=by
   intro a w hr';refine ih _ a w (by simp[hX]) ?_ ?_ hr'
   ·intro j o hj hXj ee hee hb
    rw[hX']at hXj⊢;simp only[Bool.or_eq_true,decide_eq_true_eq]at hXj⊢;rcases hXj with h|h
    ·exact .inl (hdc j o hj h ee hee hb)
    ·subst h
     have:o=ops[j]:=by simpa[hin]using hj.symm
     subst this;exact .inl (hpre ee hee hb)
   ·have e1:(List.range ops.size).filter (λj=>!(X.setIfInBounds i true).getD j false)=((List.range ops.size).filter λj=>!X.getD j false).filter λj=>!decide (j=i):=by
     rw[List.filter_filter]
     congr 1
     funext j
     rw[hX'];cases X.getD j false<;>simp
    have hmem:i∈(List.range ops.size).filter λj=>!X.getD j false:=List.mem_filter.2 ⟨List.mem_range.2 hin,by simp only[hXi,Bool.not_false]⟩
    have:=(List.length_filter_lt_length_iff_exists (l:=(List.range ops.size).filter λj=>!X.getD j false) (p:=λj=>!decide (j=i))).2 ⟨i,hmem,by simp⟩;rw[e1];omega
  obtain⟨dn,hs,V,R,h1,h2,h3,h4,h5,hr⟩:=hinv;have hSlen:(stX effs 0 (λj=>X.getD j false) st).S.length=st.S.length:=F9 ..;by_cases hhv:∃q∈hv,q.1=i
  ·obtain⟨q,hq,hqi⟩:=hhv
   subst hqi
   have hqs:q∈hs:=by
    rw[h1]at hq;rcases List.mem_append.1 hq with h|h
    ·rw[h2 q h]at hXi;cases hXi
    ·exact h
   obtain⟨q0,hs',rfl⟩:∃q0 hs',hs=q0::hs':=by
    cases hs with
    |nil=>cases hqs
    |cons q0 hs'=>exact⟨q0,hs',rfl⟩
   have hmask:=Bk (λk=>X.getD k false||decide (k=q.1)) ops.toList [] (λk o hk hXk ee hee hb=>by
    simp only[List.length_nil,Nat.zero_add,Bool.or_eq_true,decide_eq_true_eq]at hXk⊢;rcases hXk with h|h
    ·exact .inl (hdc k o hk h ee hee hb)
    ·subst h
     have:o=ops[q.1]:=by simpa[hin]using hk.symm
     subst this;exact .inl (hpre ee hee hb)) (λj m h=>by simp at h)
   have hq0:q0.1=q.1:=by
    rcases List.mem_cons.1 hqs with rfl|hqs
    ·rfl
    ·rw[h1]at hch
     have hp:=(List.pairwise_cons.1 (List.pairwise_append.1 hch).2.1).1 q hqs;obtain⟨_,m,hm1,hm2⟩:=hp;have:=hmask q.1 m hm1 (by simp) q0.1 hm2;simp only[Bool.or_eq_true,decide_eq_true_eq]at this;rcases this with h|h
     ·rw[h3 q0 (by simp)]at h;cases h
     ·exact h
   obtain⟨e',he',g1,g2,g3,g4,g5⟩:=hvi q0 (by rw[h1];simp);rw[hq0,he]at he';injection he' with he'
   subst he';rw[hq0]at g3
   have hA:=h5 (V++(stX effs 0 (λj=>X.getD j false) st).T) (stX effs 0 (λj=>X.getD j false) st).S (λt ht=>by
    rw[<-g2]at ht;rw[Bn,Bn,hrT t ht,g3]) m0 a w hr
   unfold wpOpIn;simp only[ho];rw[<-g1,heo]at hA;unfold wpListIn at hA;have hw:Region.wanted ops[q.1] (yielded ops a.tmps)=true:=by rw[<-heo];simp[Region.wanted,g5]
   have hw2:Region.wanted ops[q.1] (yielded #[] a.tmps)=true:=by rw[<-heo];simp[Region.wanted,g5]
   rw[if_pos hw2]at hA;rw[if_pos hw];refine NV (λa' w' hh=>?_) (λex a' w' ⟨st',_,hx,_⟩=>hx) hA;obtain⟨st',hr',_,u,R',hle,hHC⟩:=hh;refine next a' w' ⟨dn++[q0],hs',AL V ops[q.1].dst u,R',by rw[h1];simp,λp hp=>?_,λp hp=>?_,λd hd=>?_,hHC,?_⟩
   ·rw[hX']
    rcases List.mem_append.1 hp with hp|hp
    ·rw[h2 p hp];rfl
    ·have:p=q0:=by simpa using hp
     subst this;simp[hq0]
   ·rw[hX']
    have h6:=h3 p (by simp[hp]);rw[h6]
    have:p.1≠q.1:=λh=>by
     rw[h1]at hch;have:=((List.pairwise_cons.1 (List.pairwise_append.1 hch).2.1).1 p hp).1;omega
    simp[this]
   ·cases hdd:ops[q.1].dst with
    |none=>
     rw[hdd]at hd;obtain⟨p,hp,hpd⟩:=h4 d hd;exact⟨p,by simp[hp],hpd⟩
    |some d'=>
     rw[hdd]at hd;by_cases hdeq:d=d'
     ·subst hdeq
      exact⟨q0,by simp,by rw[<-g1,heo,hdd]⟩
     ·have hd':AP V d≠none:=by
       simp only[AL,AT,if_neg hdeq]at hd;exact hd
      obtain⟨p,hp,hpd⟩:=h4 d hd';exact⟨p,by simp[hp],hpd⟩
   ·rw[hS2]
    have hwS:(e.app (stX effs 0 (λj=>X.getD j false) st)).S=(stX effs 0 (λj=>X.getD j false) st).S:=by
     show AM _ e.wS=_
     rw[g4];rfl
    rw[hwS];refine Bu (hr'.weakH hle) λd v hv=>?_
    rw[Bn]at hv;cases hdd:ops[q.1].dst with
    |none=>
     rw[hdd]at hv;simp only[AL]at hv⊢;rw[Bn];rw[hT2]at hv;simp only[Eff.app,heo,hdd,AL]at hv;exact hv
    |some d'=>
     rw[hdd]at hv;simp only[AL,AT]at hv⊢;by_cases hdeq:d=d'
     ·simp only[if_pos hdeq]at hv⊢
      simpa using hv
     ·simp only[if_neg hdeq]at hv⊢
      rw[Bn];rw[hT2]at hv;simp only[Eff.app,heo,hdd,AL,AT,if_neg hdeq]at hv;exact hv
  ·have hno:∀q∈hv,q.1≠i:=λq hq h=>hhv ⟨q,hq,h⟩
   obtain⟨hloc,hrs,hws,hdst⟩:=hli i e hno he;have hV:∀d,(∃q∈dn,q.2.1.dst=some d)->d∉e.rT/\e.o.dst≠some d:=λd ⟨q,hq,hqd⟩=>hdst q (by rw[h1];simp[hq]) d hqd
   have hl:=hloc m0 (V++(stX effs 0 (λj=>X.getD j false) st).T) ((stX effs 0 (λj=>X.getD j false) st).S++R) a w (λt ht=>by
    rw[Bn];cases hVt:AP V t with
    |none=>rw[Option.none_or];exact hrT t ht
    |some v=>exact absurd ht (hV t (h4 t (by rw[hVt];simp))).1) (λp hp=>by
    rw[List.getElem?_append_left (by rw[hSlen];exact hrs p hp)];exact hrS p hp) hr
   have hnew:∀a' w',Rel nt m0 (e.app ⟨V++(stX effs 0 (λj=>X.getD j false) st).T,(stX effs 0 (λj=>X.getD j false) st).S++R⟩) a' w' ->Rel nt m0 ⟨V++(stX effs 0 (λj=>(X.setIfInBounds i true).getD j false) st).T,(stX effs 0 (λj=>(X.setIfInBounds i true).getD j false) st).S++R⟩ a' w':=by
    intro a' w' hr';rw[hS2]
    have e1:(e.app ⟨V++(stX effs 0 (λj=>X.getD j false) st).T,(stX effs 0 (λj=>X.getD j false) st).S++R⟩).S=(e.app (stX effs 0 (λj=>X.getD j false) st)).S++R:=by
     show AM _ e.wS=AM _ e.wS++R
     exact K9 λq hq=>by rw[hSlen];exact hws q hq
    rw[<-e1];refine Bu hr' λd v hv=>?_
    rw[Bn,hT2]at hv;show AP (AL (V++(stX effs 0 (λj=>X.getD j false) st).T) e.o.dst e.v) d=some v
    cases hdd:e.o.dst with
    |none=>
     simp only[Eff.app,hdd,AL]at hv⊢;rw[Bn];exact hv
    |some d'=>
     simp only[Eff.app,hdd,AL,AT]at hv⊢;by_cases hdeq:d=d'
     ·subst hdeq
      cases hVt:AP V d with
      |none=>rw[hVt]at hv;simpa using hv
      |some x=>exact absurd hdd (hV d (h4 d (by rw[hVt];simp))).2
     ·rw[if_neg hdeq]at hv⊢
      rw[Bn];exact hv
   have nx:∀a' w',Rel nt m0 (e.app ⟨V++(stX effs 0 (λj=>X.getD j false) st).T,(stX effs 0 (λj=>X.getD j false) st).S++R⟩) a' w' ->wpAnyIn (FW ro) 0 P .any ops (λe a' w'=>∃st',Rel nt m0 st' a' w' /\Q e st') fuel (X.setIfInBounds i true) a' w':=λa' w' hr'=>
    next a' w' ⟨dn,hs,V,R,h1,λq hq=>by rw[hX',h2 q hq];rfl,λq hq=>by
     rw[hX',h3 q hq];simp[hno q (by rw[h1];simp[hq])],h4,h5,hnew a' w' hr'⟩
   unfold wpOpIn;simp only[ho];rw[heo]at hl;by_cases hw:Region.wanted ops[i] (yielded ops a.tmps)=true
   ·rw[if_pos hw]at hl⊢
    exact E5 hl nx
   ·rw[if_neg hw]at hl⊢
    exact⟨λ_ _=>trivial,nx _ _ hl⟩
theorem SY(st:St)(X:Nat->Bool):stX [] 0 X st=st:=rfl
def Mo(n:Nat)(effs:List Eff)(hv:List (Nat×Option Nat)):Bool:=(List.range effs.length).all λi=>(hv.any λq=>Nat.beq q.1 i)||match effs[i]? with
 |none=>true
 |some e=>e.rS.all (λp=>Nat.blt p n)&&e.wS.all (λq=>Nat.blt q.1 n)&&hv.all λq=>!LQ q.2 e.rT&& !LC e.o.dst q.2
def Ix:List Nat->List Nat->Bool
 |[],_=>true
 |p::r,ms=>r.all (λq=>Nat.blt p q&&(ms.getD q 0).testBit p&&Nat.blt q ms.length)&&Ix r ms
theorem HS{ms:List Nat}:∀{hs:List Nat},Ix hs ms=true->hs.Pairwise λp q=>p<q/\∃m,ms[q]?=some m/\m.testBit p=true
 |[],_=>.nil
 |p::r,h=>by
  simp only[Ix,Bool.and_eq_true,List.all_eq_true,Nat.blt_eq]at h;refine .cons (λq hq=>?_) (HS h.2);obtain⟨⟨h1,h2⟩,h3⟩:=h.1 q hq;refine⟨h1,ms[q],by simp[h3],?_⟩;simpa[List.getD_eq_getElem?_getD,List.getElem?_eq_getElem h3]using h2
theorem LW{n:Nat}{effs:List Eff}{hv:List (Nat×Option Nat)}(h:Mo n effs hv=true){i:Nat}{e:Eff}(hi:∀q∈hv,q.1≠i)(he:effs[i]?=some e):(∀p∈e.rS,p<n)/\(∀q∈e.wS,q.1<n)/\∀q∈hv,∀d,q.2=some d->d∉e.rT/\e.o.dst≠some d:=by
 have h1:=List.all_eq_true.1 h i (List.mem_range.2 (List.getElem?_eq_some_iff.1 he).1)
 have h2:(hv.any λq=>Nat.beq q.1 i)=false:=by
  rw[List.any_eq_false];intro q hq h3;exact hi q hq (Nat.eq_of_beq_eq_true h3)
 rw[h2,he]at h1;simp only[Bool.false_or,Bool.and_eq_true,List.all_eq_true,Nat.blt_eq]at h1;refine⟨h1.1.1,h1.1.2,λq hq d hd=>?_⟩;obtain⟨h3,h4⟩:=h1.2 q hq;rw[hd]at h3 h4;refine⟨λhm=>?_,λe2=>?_⟩
 ·have:LQ (some d) e.rT=true:=List.any_eq_true.2 ⟨d,hm,Nat.beq_refl d⟩
  rw[this]at h3;cases h3
 ·rw[e2]at h4
  have:LC (some d) (some d)=true:=by simp[LC]
  rw[this]at h4;cases h4
def RGoH(ro:Option Nat)(n:Nat)(P:Program)(nt:Nat)(l:List Oper)(Q:Exit->St->Prop)(R0:List AB)(rest:List Oper)(acc:List Eff)(hacc:List Hv)(st:St):Prop:=
 ∃effs hvr,effs.map (·.o)=rest/\
  (∀q∈hvr,∃k e,q.1=acc.length+k/\effs[k]?=some e/\e.o=q.2.1/\e.rT=q.2.2.1/\(stX effs 0 (λj=>decide (j<k)) st).T=q.2.2.2/\e.wS=[]/\e.o.guard=none)/\
  (∀k e,(∀q∈hvr,q.1≠acc.length+k)->effs[k]?=some e->HU P nt l.toArray e (stX effs 0 (λj=>decide (j<k)) st))/\
  CR (acc++effs) (BC l [])=true/\Ix ((hacc++hvr).map (·.1)) (BC l [])=true/\Mo n (acc++effs) ((hacc++hvr).map λq=>(q.1,q.2.1.dst))=true/\
  HC ro P nt Q (stX effs 0 (λ_=>true) st).T (stX effs 0 (λ_=>true) st).S (hacc++hvr) [] R0
section
variable {Q:Exit->St->Prop}{l rest:List Oper}{acc:List Eff}{hacc:List Hv}{st:St}{T:List (Nat×AV)}{S R0:List AB}{xs:List (Operand×AV)}{rS wS:List (Nat×AB)}{v:AV}{op:Op}{ty:TypeId}{pos:String}{after:Array Edge}{dst:Option Tmp}{n:Nat}
theorem Cw{id:Nat}(F0 R0:List AB)(hn:F0.length=n)(hm:P.follows .mixedOrders=true)(hdn:down l 0=true)(h:RGoH ro n P nt l Q R0 l [] [] ⟨T,F0⟩):AWP ro P nt (.region id l.toArray true) Q ⟨T,F0++R0⟩:=by
 obtain⟨effs,hv,h1,h2,h3,h4,h5,h6,h7⟩:=h;rw[List.nil_append]at h4 h5 h6 h7;intro m0 a w hrel;refine wpIn_region_any hm (NO (m0:=m0) (st:=⟨T,F0⟩) (effs:=effs) (hv:=hv) (R0:=R0) (by simpa using h1) (by simpa using h4) (by simpa using hdn) (λq hq=>?_) (by simpa[List.pairwise_map]using HS h5) (λi e hi he=>?_) _ _ a _ (by simp) ?_ ?_ ?_)
 ·obtain⟨k,e,g1,g2,g3,g4,g5,g6,g7⟩:=h2 q hq
  rw[List.length_nil,Nat.zero_add]at g1;subst g1;exact⟨e,g2,g3,g4,g5,g6,g7⟩
 ·have hl:=LW h6 (i:=i) (e:=e) (λq hq=>by
   obtain⟨p,hp,rfl⟩:=List.mem_map.1 hq;exact hi p hp) he
  refine⟨h3 i e (λq hq=>by rw[List.length_nil,Nat.zero_add];exact hi q hq) he,λp hp=>by rw[hn];exact hl.1 p hp,λq hq=>by rw[hn];exact hl.2.1 q hq,λq hq d hd=>hl.2.2 (q.1,q.2.1.dst) (List.mem_map.2 ⟨q,hq,rfl⟩) d hd⟩
 ·intro j o hj hX
  have:j<l.length:=(List.getElem?_eq_some_iff.1 hj).1;simp[this]at hX
 ·exact Nat.le_trans (List.length_filter_le _ _) (by simp)
 ·have:(λj=>(Array.replicate l.toArray.size false).getD j false)=λ_=>false:=by
   funext j
   simp only[Array.getD_eq_getD_getElem?,Array.getElem?_replicate];split<;>rfl
  refine⟨[],hv,[],R0,rfl,λq hq=>absurd hq (by simp),λq hq=>congrFun this q.1,λd hd=>absurd rfl hd,h7,?_⟩;rw[this,Dn];exact hrel.draw _
theorem RGoH.nil(hc:CR acc (BC l [])=true)(h5:Ix (hacc.map (·.1)) (BC l [])=true)(h6:Mo n acc (hacc.map λq=>(q.1,q.2.1.dst))=true)(k:HC ro P nt Q st.T st.S hacc [] R0):RGoH ro n P nt l Q R0 [] acc hacc st:=
 ⟨[],[],rfl,λq hq=>(by cases hq),λk e _ he=>(by cases he),by simpa using hc,by simpa using h5,by simpa using h6,by rw[List.append_nil];exact k⟩
theorem RGoH.step_{o:Oper}{e:Eff}{st':St}(h:Run P nt l.toArray [o] st [e] st')(k:RGoH ro n P nt l Q R0 rest (acc++[e]) hacc st'):RGoH ro n P nt l Q R0 (o::rest) acc hacc st:=by
 obtain⟨h1,h2,h3⟩:=h.spec;obtain⟨effs,hvr,k1,k2,k3,k4,k5,k6,k7⟩:=k;have hst:st'=e.app st:=by rw[h1,FC];rfl
 subst hst;simp only[List.map_cons,List.map_nil,List.cons.injEq,and_true]at h2;refine⟨e::effs,hvr,by simp[k1,h2],λq hq=>?_,λi e' hi he=>?_,by simpa using k4,k5,by simpa using k6,by rw[FC];exact k7⟩
 ·obtain⟨i,e',g1,g2,g3,g4,g5,g6,g7⟩:=k2 q hq
  refine⟨i+1,e',by rw[g1,List.length_append,List.length_singleton];omega,by simpa using g2,g3,g4,by rw[Do];exact g5,g6,g7⟩
 ·cases i with
  |zero=>
   simp at he;subst he;have:=h3 0 e rfl;rw[Ep]at this⊢;exact this
  |succ i=>
   rw[Do];exact k3 i e' (λq hq=>by rw[List.length_append,List.length_singleton];have:=hi q hq;omega) (by simpa using he)
theorem RGoH.go(k:RGoH ro n P nt l Q R0 rest (acc++[⟨⟨dst,op,ty,pos,after,none⟩,Ad xs,rS.map (·.1),v,[]⟩]) hacc ⟨AL T dst v,S⟩)(h:Stp none P ⟨dst,op,ty,pos,after,none⟩ T S xs rS v []:=by exact Fy)(hd:AK dst nt=true:=by rfl):RGoH ro n P nt l Q R0 (⟨dst,op,ty,pos,after,none⟩::rest) acc hacc ⟨T,S⟩:=RGoH.step_ (Run.p h hd .nil) k
theorem RGoH.goS(k:RGoH ro n P nt l Q R0 rest (acc++[⟨⟨dst,op,ty,pos,after,none⟩,Ad xs,rS.map (·.1),v,wS⟩]) hacc ⟨AL T dst v,AM S wS⟩)(h:Stp none P ⟨dst,op,ty,pos,after,none⟩ T S xs rS v wS:=by exact G8)(hd:AK dst nt=true:=by rfl):RGoH ro n P nt l Q R0 (⟨dst,op,ty,pos,after,none⟩::rest) acc hacc ⟨T,S⟩:=RGoH.step_ (Run.s h hd .nil) k
theorem RGoH.skip(rT:List Nat)(k:RGoH ro n P nt l Q R0 rest (acc++[⟨⟨dst,op,ty,pos,after,none⟩,rT,[],.dead,[]⟩]) (hacc++[(acc.length,⟨dst,op,ty,pos,after,none⟩,rT,T)]) ⟨AL T dst .dead,S⟩):RGoH ro n P nt l Q R0 (⟨dst,op,ty,pos,after,none⟩::rest) acc hacc ⟨T,S⟩:=by
 obtain⟨effs,hvr,k1,k2,k3,k4,k5,k6,k7⟩:=k;refine⟨⟨⟨dst,op,ty,pos,after,none⟩,rT,[],.dead,[]⟩::effs,(acc.length,⟨dst,op,ty,pos,after,none⟩,rT,T)::hvr,by simp[k1],λq hq=>?_,λi e' hi he=>?_,by simpa using k4,by simpa using k5,by simpa using k6,by rw[FC,List.append_cons];exact k7⟩
 ·rcases List.mem_cons.1 hq with rfl|hq
  ·exact⟨0,_,rfl,rfl,rfl,rfl,by rw[Ep],rfl,rfl⟩
  ·obtain⟨i,e',g1,g2,g3,g4,g5,g6,g7⟩:=k2 q hq
   exact⟨i+1,e',by rw[g1,List.length_append,List.length_singleton];omega,by simpa using g2,g3,g4,by rw[Do];exact g5,g6,g7⟩
 ·cases i with
  |zero=>exact absurd rfl (hi (acc.length,⟨dst,op,ty,pos,after,none⟩,rT,T) (by simp))
  |succ i=>
   rw[Do];exact k3 i e' (λq hq=>by rw[List.length_append,List.length_singleton];have:=hi q (by simp[hq]);omega) (by simpa using he)
def RdH(rT:List Nat)(L:List (Nat×AV)):List (Nat×AV)->Prop
 |[]=>True
 |p::r=>rT.contains p.1=true/\AP L p.1=some p.2/\RdH rT L r
theorem RdH.at{rT:List Nat}{L:List (Nat×AV)}:∀{xs:List (Nat×AV)},RdH rT L xs->∀d v,AP xs d=some v->d∈rT/\AP L d=some v
 |[],_,d,v,h=>by cases h
 |p::r,hx,d,v,h=>by
  obtain⟨h1,h2,h3⟩:=hx;rw[show p::r=(p.1,p.2)::r from rfl,AT]at h;split at h
  ·rename_i e
   subst e;injection h with h
   subst h;exact⟨by simpa using h1,h2⟩
  ·exact RdH.at h3 d v h
theorem HC.step{q:Hv}{hs:List Hv}{V Tf:List (Nat×AV)}{Ff R:List AB}(ys:List (Nat×AV))(hx:RdH q.2.2.1 (V++q.2.2.2) ys)(k:∀T F,AOps ro P nt #[] (λex st'=>ex= .normal/\∃u R',st'.LeH ⟨AL (ys++T) q.2.1.dst u,F++R'⟩/\HC ro P nt Q Tf Ff hs (AL V q.2.1.dst u) R') [q.2.1] ⟨ys++T,F++R⟩):HC ro P nt Q Tf Ff (q::hs) V R:=by
 intro T F hT m0 a w hr
 have hin:∀d v,AP (ys++T) d=some v->AP T d=some v:=λd v h=>by
  rw[Bn]at h;cases hy:AP ys d with
  |none=>rw[hy]at h;simpa using h
  |some x=>
   rw[hy]at h;have hxv:x=v:=by simpa using h
   subst hxv;obtain⟨h1,h2⟩:=hx.at d x hy;rw[hT d h1,h2]
 have hout:∀d v,AP T d=some v->AP (ys++T) d=some v:=λd v h=>by
  rw[Bn];cases hy:AP ys d with
  |none=>simpa using h
  |some x=>
   obtain⟨h1,h2⟩:=hx.at d x hy;rw[hT d h1,h2]at h;simpa using h
 have h1:=k T F m0 a w (Bu hr hin)
 have hcv:∀st':St,(∃u R',st'.LeH ⟨AL (ys++T) q.2.1.dst u,F++R'⟩/\HC ro P nt Q Tf Ff hs (AL V q.2.1.dst u) R')->∃u R',st'.LeH ⟨AL T q.2.1.dst u,F++R'⟩/\HC ro P nt Q Tf Ff hs (AL V q.2.1.dst u) R':=by
  rintro st' ⟨u,R',hle,hh⟩;refine⟨u,R',⟨λd v hd=>hle.T d v ?_,hle.S⟩,hh⟩;cases hdd:q.2.1.dst with
  |none=>rw[hdd]at hd;exact hout d v hd
  |some d'=>
   rw[hdd]at hd;simp only[AL,AT]at hd⊢;split
   ·rename_i e;rw[if_pos e]at hd;exact hd
   ·rename_i e;rw[if_neg e]at hd;exact hout d v hd
 have hK:∀a w,wpListIn (FW ro) 0 P #[] (λe a' w'=>∃st':St,Rel nt m0 st' a' w' /\e= .normal/\∃u R',st'.LeH ⟨AL (ys++T) q.2.1.dst u,F++R'⟩/\HC ro P nt Q Tf Ff hs (AL V q.2.1.dst u) R') [] a w->wpListIn (FW ro) 0 P #[] (λe a' w'=>∃st':St,Rel nt m0 st' a' w' /\e= .normal/\∃u R',st'.LeH ⟨AL T q.2.1.dst u,F++R'⟩/\HC ro P nt Q Tf Ff hs (AL V q.2.1.dst u) R') [] a w:=by
  rintro a w ⟨st',h2,h3,h4⟩;exact⟨st',h2,h3,hcv st' h4⟩
 unfold wpListIn at h1⊢;by_cases hw:Region.wanted q.2.1 (yielded #[] a.tmps)=true
 ·rw[if_pos hw]at h1⊢
  exact NV hK (λex a' w' ⟨st',_,hx,_⟩=>hx) h1
 ·rw[if_neg hw]at h1⊢
  exact⟨h1.1,hK _ _ h1.2⟩
end
end
end
end Go.Proofs.YtiidbamlcgbpnaaGreat
