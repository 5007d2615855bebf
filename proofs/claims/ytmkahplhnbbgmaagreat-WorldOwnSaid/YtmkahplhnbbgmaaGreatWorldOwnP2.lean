/-
  Part 2 of the texts under the law WorldOwn: the layer of abstract values, walks and plain laws. Conditions: those that each theorem names.
-/
import Derived.RangeFuncRecord
import Derived.Lib.SliceRun
import Derived.Test.YtmkahplhnbbgmaaGreatWorldOwnP1
namespace Go.Proofs.YtmkahplhnbbgmaaGreat
set_option linter.unusedVariables false
set_option linter.unusedSimpArgs false
set_option linter.defProp false
set_option maxRecDepth 10000
set_option maxHeartbeats 4000000
variable {cs:List Bool}
variable {T:List (Nat×AV)}
variable {x:Operand}
variable {xs:Array Operand}
variable {g:Option (Nat×Bool)}
variable {t:Nat}
variable {c:Code}
variable {β:Type}
variable {res:List ResultVar}
variable {Sf:List AK}
variable {m:Nat}
variable {ats:Array TypeId}
variable {b:Bool}
variable {ag:Bool}
variable {zl:List Value}
variable {pl:List (Nat×Nat)}
variable {x0:Operand}
variable {v0:AV}
variable {P:Program}
variable {Q:Exit->St->Prop}
variable {n:Nat}
variable {Y:Nat}
variable {t2:TypeId}
variable {sz2:Nat}
variable {bs:List Nat}
variable {m0:Mem}
variable {nt:Nat}
variable {l2':Nat->List AV}
variable {S:List AK}
variable {sz:Nat}
variable {a:Act}
variable {l:List AV}
variable {dst:Option Tmp}
variable {pos:String}
variable {after:Array Edge}
variable {x1:Operand}
variable {v1:AV}
variable {x2:Operand}
variable {v2:AV}
variable {x3:Operand}
variable {v3:AV}
variable {x4:Operand}
variable {v4:AV}
variable {x5:Operand}
variable {ops:Array Oper}
variable {rest:List Oper}
variable {cap:List AV}
variable {ts:List Nat}
variable {l0:List Oper}
variable {acc:List Eff}
variable {ex:List Nat}
section
variable {ro:Option Nat}
open Go.RowKit
class TAg(P:Program)(t:TypeId)(b:outParam Bool):Prop where h:NH P t=some b:=by kernel_rfl
class TSize(P:Program)(t:TypeId)(n:outParam Nat):Prop where h:tSz P t=some n:=by kernel_rfl
class TEl(P:Program)(t:TypeId)(e:outParam TypeId):Prop where h:Dn P t=some e:=by kernel_rfl
class TFl(P:Program)(s:TypeId)(f:Nat)(off:outParam Nat)(ft:outParam TypeId):Prop where h:PL P s f=some (off,ft):=by kernel_rfl
class TSt(P:Program)(t:TypeId)(zl:outParam (List Value))(pl:outParam (List (Nat×Nat))):Prop where h:Qu P t=some (zl,pl):=by kernel_rfl
class TZe(P:Program)(t:TypeId)(zl:outParam (List Value)):Prop where h:tZ P t=some zl:=by kernel_rfl
class TBy(P:Program)(t:TypeId)(n:outParam Nat):Prop where h:(P.info? t).map (·.bytes)=some n:=by kernel_rfl
class TRo(P:Program)(t:TypeId)(te:outParam TypeId)(sz by_:outParam Nat):Prop where h:PK P t=some (te,sz,by_):=by kernel_rfl
class TSg(P:Program)(t:TypeId):Prop where h:P.underlying t=some .string:=by kernel_rfl
def Rd:Option (List Bool)->List (Nat×AV)->Operand->AV->Prop
 |none,T,x,v=>ev T x=some v
 |some cs,T,x,v=>∃w,ev T x=some w/\Strips cs w v
theorem Strips.a1{c:Bool}{v:AV}:Strips [c] (.opt c v) v:=.step (by simp) .refl
theorem Strips.b12{c d:Bool}{v:AV}:Strips [c,d] (.opt c (.opt d v)) v:=.step (by simp) (.step (by simp) .refl)
theorem Rd.q{w v:AV}(h:ev T x=some w)(k:Strips cs w v):Rd (some cs) T x v:=⟨w,h,k⟩
inductive Rds(c:Option (List Bool))(T:List (Nat×AV)):List (Operand×AV)->Prop
 |nil:Rds c T []
 |cons {x:Operand} {v:AV} {r:List (Operand×AV)} (h:Rd c T x v) (k:Rds c T r):Rds c T ((x,v)::r)
structure Stp(c:Option (List Bool))(P:Program)(o:Oper)(T:List (Nat×AV))(S:List AK)(xs:List (Operand×AV))(rS:List (Nat×AK))(v:AV)(wS:List (Nat×AK)):Prop where
 op:OpT P o xs rS v wS
 rd:Rds c T xs
 get:Gets S rS
theorem Rds.evs{xs:List (Operand×AV)}(h:Rds none T xs):Evs T xs:=by
 induction h with
 |nil=>exact .nil
 |cons h _ ih=>exact .cons h ih
theorem Rds.evcs{c:List Bool}{xs:List (Operand×AV)}(h:Rds (some c) T xs):EvCs c T xs:=by
 induction h with
 |nil=>exact .nil
 |cons h _ ih=>obtain⟨w,h,hs⟩:=h;exact .cons h hs ih
section
variable {P:Program}{nt:Nat}{ops:Array Oper}{Q:Exit->St->Prop}{rest:List Oper}{st':St}{T:List (Nat×AV)}{S:List AK}{xs:List (Operand×AV)}{rS wS:List (Nat×AK)}{v:AV}{effs:List Eff}{op:Op}{ty:TypeId}{pos:String}{after:Array Edge}{dst:Option Tmp}
theorem AQ(h:Stp none P ⟨dst,op,ty,pos,after,none⟩ T S xs rS v [])(hd:Ao dst nt=true)(k:AOps ro P nt ops Q rest ⟨A6 T dst v,S⟩):AOps ro P nt ops Q (⟨dst,op,ty,pos,after,none⟩::rest) ⟨T,S⟩:=.step rfl h.op h.rd.evs h.get hd k
theorem CM(h:Stp none P ⟨dst,op,ty,pos,after,none⟩ T S xs rS v wS)(hd:Ao dst nt=true)(k:AOps ro P nt ops Q rest ⟨A6 T dst v,A5 S wS⟩):AOps ro P nt ops Q (⟨dst,op,ty,pos,after,none⟩::rest) ⟨T,S⟩:=.step rfl h.op h.rd.evs h.get hd k
theorem Nw{g:Nat}{b b':Bool}{wg:AV}(ht:(ops[g]?).bind (·.dst)=some t)(hv:BR T t=some wg)(hc:GH wg=some (cs,b'))(h:Stp (some (cs++[b'==b])) P ⟨dst,op,ty,pos,after,some (g,b)⟩ T S xs rS v [])(hd:Ao dst nt=true)(hos:Da xs=true)
  (k:AOps ro P nt ops Q rest ⟨A6 T dst (HG (cs++[b'==b]) v),S⟩):AOps ro P nt ops Q (⟨dst,op,ty,pos,after,some (g,b)⟩::rest) ⟨T,S⟩:=.stepQ rfl ht hv hc (λ_=>h.op) h.rd.evcs h.get hd hos k
theorem Ut{g:Nat}{b b':Bool}(ht:(ops[g]?).bind (·.dst)=some t)(hv:BR T t=some (.prim (.bool b')))(hb:b'= !b)(hd:Ao dst nt=true)(k:AOps ro P nt ops Q rest ⟨A6 T dst .dead,S⟩):AOps ro P nt ops Q (⟨dst,op,ty,pos,after,some (g,b)⟩::rest) ⟨T,S⟩:=.skipG rfl ht hv hb hd k
theorem TS{g:Nat}{b b':Bool}(h:Stp (some [b'==b]) P ⟨dst,op,ty,pos,after,some (g,b)⟩ T S xs rS v [])(ht:(ops[g]?).bind (·.dst)=some t)(hv:BR T t=some (.prim (.bool b')))(hd:Ao dst nt=true)(hos:Da xs=true)
  (k:AOps ro P nt ops Q rest ⟨A6 T dst (.opt (b'==b) v),S⟩):AOps ro P nt ops Q (⟨dst,op,ty,pos,after,some (g,b)⟩::rest) ⟨T,S⟩:=Nw ht hv rfl h hd hos k
theorem TQ{c1:Bool}{g:Nat}{b b':Bool}(h:Stp (some [c1,b'==b]) P ⟨dst,op,ty,pos,after,some (g,b)⟩ T S xs rS v [])(ht:(ops[g]?).bind (·.dst)=some t)(hv:BR T t=some (.opt c1 (.prim (.bool b'))))(hd:Ao dst nt=true)(hos:Da xs=true)
  (k:AOps ro P nt ops Q rest ⟨A6 T dst (.opt c1 (.opt (b'==b) v)),S⟩):AOps ro P nt ops Q (⟨dst,op,ty,pos,after,some (g,b)⟩::rest) ⟨T,S⟩:=Nw ht hv rfl h hd hos k
theorem TP{c1 c2:Bool}{g:Nat}{b b':Bool}(h:Stp (some [c1,c2,b'==b]) P ⟨dst,op,ty,pos,after,some (g,b)⟩ T S xs rS v [])(ht:(ops[g]?).bind (·.dst)=some t)(hv:BR T t=some (.opt c1 (.opt c2 (.prim (.bool b')))))(hd:Ao dst nt=true)(hos:Da xs=true)
  (k:AOps ro P nt ops Q rest ⟨A6 T dst (.opt c1 (.opt c2 (.opt (b'==b) v))),S⟩):AOps ro P nt ops Q (⟨dst,op,ty,pos,after,some (g,b)⟩::rest) ⟨T,S⟩:=Nw ht hv rfl h hd hos k
theorem Run.p(h:Stp none P ⟨dst,op,ty,pos,after,none⟩ T S xs rS v [])(hd:Ao dst nt=true)(k:Run P nt ops rest ⟨A6 T dst v,S⟩ effs st'):Run P nt ops (⟨dst,op,ty,pos,after,none⟩::rest) ⟨T,S⟩ (⟨⟨dst,op,ty,pos,after,none⟩,BZ xs,rS.map (·.1),v,[]⟩::effs) st':=.step rfl h.op h.rd.evs h.get hd k
theorem Run.s(h:Stp none P ⟨dst,op,ty,pos,after,none⟩ T S xs rS v wS)(hd:Ao dst nt=true)(k:Run P nt ops rest ⟨A6 T dst v,A5 S wS⟩ effs st'):Run P nt ops (⟨dst,op,ty,pos,after,none⟩::rest) ⟨T,S⟩ (⟨⟨dst,op,ty,pos,after,none⟩,BZ xs,rS.map (·.1),v,wS⟩::effs) st':=.step rfl h.op h.rd.evs h.get hd k
theorem Run.sG{g:Nat}{b b':Bool}(ht:(ops[g]?).bind (·.dst)=some t)(hv:BR T t=some (.prim (.bool b')))(hb:b'=b)(h:Stp none P ⟨dst,op,ty,pos,after,some (g,b)⟩ T S xs rS v wS)(hd:Ao dst nt=true)(k:Run P nt ops rest ⟨A6 T dst v,A5 S wS⟩ effs st'):Run P nt ops (⟨dst,op,ty,pos,after,some (g,b)⟩::rest) ⟨T,S⟩ (⟨⟨dst,op,ty,pos,after,some (g,b)⟩,t::BZ xs,rS.map (·.1),v,wS⟩::effs) st':=
 .stepG rfl ht hv hb h.op h.rd.evs h.get hd k
theorem Run.sQ{g:Nat}{b b':Bool}{wg:AV}(ht:(ops[g]?).bind (·.dst)=some t)(hv:BR T t=some wg)(hc:GH wg=some (cs,b'))(h:Stp (some (cs++[b'==b])) P ⟨dst,op,ty,pos,after,some (g,b)⟩ T S xs rS v [])(hd:Ao dst nt=true)(hos:Da xs=true)
  (k:Run P nt ops rest ⟨A6 T dst (HG (cs++[b'==b]) v),S⟩ effs st'):Run P nt ops (⟨dst,op,ty,pos,after,some (g,b)⟩::rest) ⟨T,S⟩ (⟨⟨dst,op,ty,pos,after,some (g,b)⟩,t::BZ xs,rS.map (·.1),HG (cs++[b'==b]) v,[]⟩::effs) st':=.stepQ rfl ht hv hc (λ_=>h.op) h.rd.evcs h.get hd hos k
theorem Run.sN{g:Nat}{b b':Bool}(ht:(ops[g]?).bind (·.dst)=some t)(hv:BR T t=some (.prim (.bool b')))(hb:b'= !b)(hd:Ao dst nt=true)(k:Run P nt ops rest ⟨A6 T dst .dead,S⟩ effs st'):Run P nt ops (⟨dst,op,ty,pos,after,some (g,b)⟩::rest) ⟨T,S⟩ (⟨⟨dst,op,ty,pos,after,some (g,b)⟩,[t],[],.dead,[]⟩::effs) st':=.skipG rfl ht hv hb hd k
theorem Run.sQ1{g:Nat}{b b':Bool}(h:Stp (some [b'==b]) P ⟨dst,op,ty,pos,after,some (g,b)⟩ T S xs rS v [])(ht:(ops[g]?).bind (·.dst)=some t)(hv:BR T t=some (.prim (.bool b')))(hd:Ao dst nt=true)(hos:Da xs=true)
  (k:Run P nt ops rest ⟨A6 T dst (.opt (b'==b) v),S⟩ effs st'):Run P nt ops (⟨dst,op,ty,pos,after,some (g,b)⟩::rest) ⟨T,S⟩ (⟨⟨dst,op,ty,pos,after,some (g,b)⟩,t::BZ xs,rS.map (·.1),(.opt (b'==b) v),[]⟩::effs) st':=Run.sQ ht hv rfl h hd hos k
theorem Run.sQ2{c1:Bool}{g:Nat}{b b':Bool}(h:Stp (some [c1,b'==b]) P ⟨dst,op,ty,pos,after,some (g,b)⟩ T S xs rS v [])(ht:(ops[g]?).bind (·.dst)=some t)(hv:BR T t=some (.opt c1 (.prim (.bool b'))))(hd:Ao dst nt=true)(hos:Da xs=true)
  (k:Run P nt ops rest ⟨A6 T dst (.opt c1 (.opt (b'==b) v)),S⟩ effs st'):Run P nt ops (⟨dst,op,ty,pos,after,some (g,b)⟩::rest) ⟨T,S⟩ (⟨⟨dst,op,ty,pos,after,some (g,b)⟩,t::BZ xs,rS.map (·.1),(.opt c1 (.opt (b'==b) v)),[]⟩::effs) st':=Run.sQ ht hv rfl h hd hos k
theorem Run.sQ3{c1 c2:Bool}{g:Nat}{b b':Bool}(h:Stp (some [c1,c2,b'==b]) P ⟨dst,op,ty,pos,after,some (g,b)⟩ T S xs rS v [])(ht:(ops[g]?).bind (·.dst)=some t)(hv:BR T t=some (.opt c1 (.opt c2 (.prim (.bool b')))))(hd:Ao dst nt=true)(hos:Da xs=true)
  (k:Run P nt ops rest ⟨A6 T dst (.opt c1 (.opt c2 (.opt (b'==b) v))),S⟩ effs st'):Run P nt ops (⟨dst,op,ty,pos,after,some (g,b)⟩::rest) ⟨T,S⟩ (⟨⟨dst,op,ty,pos,after,some (g,b)⟩,t::BZ xs,rS.map (·.1),(.opt c1 (.opt c2 (.opt (b'==b) v))),[]⟩::effs) st':=Run.sQ ht hv rfl h hd hos k
section
variable {P:Program}{nt:Nat}{ops:Array Oper}{Q:Exit->St->Prop}{rest:List Oper}{st st':St}{effs:List Eff}{ty t t2:TypeId}{pos:String}{after:Array Edge}{dst:Option Tmp}{g:Option (Nat×Bool)}{x y z:Operand}{f n:Nat}{ar:Array (Nat×Operand)}
theorem Gw(k:AOps ro P nt ops Q (⟨dst,.box t x,ty,pos,after,g⟩::rest) st):AOps ro P nt ops Q (⟨dst,.box t x,ty,pos,after,g⟩::rest) st:=k
end
def RGo(P:Program)(nt:Nat)(ops:Array Oper)(l:List Oper)(Q:Exit->St->Prop)(rest:List Oper)(acc:List Eff)(st:St):Prop:=
 ∃effs st',Run P nt ops rest st effs st' /\E3 (acc++effs) (Do l [])=true/\Q .normal st'
theorem AWP.region_run{P:Program}{nt:Nat}{Q:Exit->St->Prop}{id:Nat}{l:List Oper}{st:St}(hm:P.follows .mixedOrders=true)(hdn:JY l 0=true)(h:RGo P nt l.toArray l Q l [] st):AWP ro P nt (.region id l.toArray true) Q st:=by
 obtain⟨effs,st',h1,h2,h3⟩:=h;exact .region_any hm h1 (by simpa using h2) hdn h3
section
variable {P:Program}{nt:Nat}{ops:Array Oper}{Q:Exit->St->Prop}{l rest:List Oper}{acc:List Eff}{st:St}{T:List (Nat×AV)}{S:List AK}{xs:List (Operand×AV)}{rS wS:List (Nat×AK)}{v:AV}{op:Op}{ty:TypeId}{pos:String}{after:Array Edge}{dst:Option Tmp}
theorem RGo.nil(hc:E3 acc (Do l [])=true)(k:Q .normal st):RGo P nt ops l Q [] acc st:=⟨[],st,.nil,by simpa using hc,k⟩
theorem ES{o:Oper}{e:Eff}{st':St}(h:∀{effs st''},Run P nt ops rest st' effs st'' ->Run P nt ops (o::rest) st (e::effs) st'')(k:RGo P nt ops l Q rest (acc++[e]) st'):RGo P nt ops l Q (o::rest) acc st:=by
 obtain⟨effs,st'',h1,h2,h3⟩:=k;exact⟨_,_,h h1,by simpa using h2,h3⟩
theorem RGo.p(h:Stp none P ⟨dst,op,ty,pos,after,none⟩ T S xs rS v [])(hd:Ao dst nt=true)(k:RGo P nt ops l Q rest (acc++[⟨⟨dst,op,ty,pos,after,none⟩,BZ xs,rS.map (·.1),v,[]⟩]) ⟨A6 T dst v,S⟩):RGo P nt ops l Q (⟨dst,op,ty,pos,after,none⟩::rest) acc ⟨T,S⟩:=ES (λr=>Run.p h hd r) k
theorem RGo.s(h:Stp none P ⟨dst,op,ty,pos,after,none⟩ T S xs rS v wS)(hd:Ao dst nt=true)(k:RGo P nt ops l Q rest (acc++[⟨⟨dst,op,ty,pos,after,none⟩,BZ xs,rS.map (·.1),v,wS⟩]) ⟨A6 T dst v,A5 S wS⟩):RGo P nt ops l Q (⟨dst,op,ty,pos,after,none⟩::rest) acc ⟨T,S⟩:=ES (λr=>Run.s h hd r) k
theorem Vi{g:Nat}{b b':Bool}(ht:(ops[g]?).bind (·.dst)=some t)(hv:BR T t=some (.prim (.bool b')))(hb:b'=b)(h:Stp none P ⟨dst,op,ty,pos,after,some (g,b)⟩ T S xs rS v wS)(hd:Ao dst nt=true)(k:RGo P nt ops l Q rest (acc++[⟨⟨dst,op,ty,pos,after,some (g,b)⟩,t::BZ xs,rS.map (·.1),v,wS⟩]) ⟨A6 T dst v,A5 S wS⟩):RGo P nt ops l Q (⟨dst,op,ty,pos,after,some (g,b)⟩::rest) acc ⟨T,S⟩:=ES (λr=>Run.sG ht hv hb h hd r) k
theorem Uh{g:Nat}{b b':Bool}(h:Stp (some [b'==b]) P ⟨dst,op,ty,pos,after,some (g,b)⟩ T S xs rS v [])(ht:(ops[g]?).bind (·.dst)=some t)(hv:BR T t=some (.prim (.bool b')))(hd:Ao dst nt=true)(hos:Da xs=true)
  (k:RGo P nt ops l Q rest (acc++[⟨⟨dst,op,ty,pos,after,some (g,b)⟩,t::BZ xs,rS.map (·.1),(.opt (b'==b) v),[]⟩]) ⟨A6 T dst (.opt (b'==b) v),S⟩):RGo P nt ops l Q (⟨dst,op,ty,pos,after,some (g,b)⟩::rest) acc ⟨T,S⟩:=ES (λr=>Run.sQ1 h ht hv hd hos r) k
theorem Ug{c1:Bool}{g:Nat}{b b':Bool}(h:Stp (some [c1,b'==b]) P ⟨dst,op,ty,pos,after,some (g,b)⟩ T S xs rS v [])(ht:(ops[g]?).bind (·.dst)=some t)(hv:BR T t=some (.opt c1 (.prim (.bool b'))))(hd:Ao dst nt=true)(hos:Da xs=true)
  (k:RGo P nt ops l Q rest (acc++[⟨⟨dst,op,ty,pos,after,some (g,b)⟩,t::BZ xs,rS.map (·.1),(.opt c1 (.opt (b'==b) v)),[]⟩]) ⟨A6 T dst (.opt c1 (.opt (b'==b) v)),S⟩):RGo P nt ops l Q (⟨dst,op,ty,pos,after,some (g,b)⟩::rest) acc ⟨T,S⟩:=ES (λr=>Run.sQ2 h ht hv hd hos r) k
theorem Uf{c1 c2:Bool}{g:Nat}{b b':Bool}(h:Stp (some [c1,c2,b'==b]) P ⟨dst,op,ty,pos,after,some (g,b)⟩ T S xs rS v [])(ht:(ops[g]?).bind (·.dst)=some t)(hv:BR T t=some (.opt c1 (.opt c2 (.prim (.bool b')))))(hd:Ao dst nt=true)(hos:Da xs=true)
  (k:RGo P nt ops l Q rest (acc++[⟨⟨dst,op,ty,pos,after,some (g,b)⟩,t::BZ xs,rS.map (·.1),(.opt c1 (.opt c2 (.opt (b'==b) v))),[]⟩]) ⟨A6 T dst (.opt c1 (.opt c2 (.opt (b'==b) v))),S⟩):RGo P nt ops l Q (⟨dst,op,ty,pos,after,some (g,b)⟩::rest) acc ⟨T,S⟩:=ES (λr=>Run.sQ3 h ht hv hd hos r) k
theorem Vh{g:Nat}{b b':Bool}(ht:(ops[g]?).bind (·.dst)=some t)(hv:BR T t=some (.prim (.bool b')))(hb:b'= !b)(hd:Ao dst nt=true)(k:RGo P nt ops l Q rest (acc++[⟨⟨dst,op,ty,pos,after,some (g,b)⟩,[t],[],.dead,[]⟩]) ⟨A6 T dst .dead,S⟩):RGo P nt ops l Q (⟨dst,op,ty,pos,after,some (g,b)⟩::rest) acc ⟨T,S⟩:=ES (λr=>Run.sN ht hv hb hd r) k
variable {t t2:TypeId}{g:Option (Nat×Bool)}{x y z:Operand}{f n:Nat}{ar:Array (Nat×Operand)}
theorem Bu{op:Op}{g:Nat×Bool}(k:RGo P nt ops l Q (⟨dst,op,ty,pos,after,some g⟩::rest) acc st):RGo P nt ops l Q (⟨dst,op,ty,pos,after,some g⟩::rest) acc st:=k
end
theorem DH{st:St}(inv:β->St)(R:β->Prop)(μ:β->Nat)(b0:β)(hR:R b0)(h0:st.Le (inv b0))(round:∀b,R b->AWP ro P nt c (andThen (λst'=>∃b',R b' /\μ b'<μ b/\st'.Le (inv b')) Q) (inv b)):AWP ro P nt (.loop c) Q st:=
 .loop (β:={b:β//R b}) (λb=>inv b.1) (λb=>μ b.1) ⟨b0,hR⟩ h0 λb=>(round b.1 b.2).mono λe st' h=>by
  cases e with
  |normal=>obtain⟨b',h1,h2,h3⟩:=h;exact⟨⟨b',h1⟩,h2,h3⟩
  |_=>exact h
theorem DS{K:St->Prop}{Q:Exit->St->Prop}{st:St}(h:K st):andThen K Q .normal st:=h
theorem Re{K:St->Prop}{Q:Exit->St->Prop}{st:St}(h:Q .ret st):andThen K Q .ret st:=h
theorem M6{K:St->Prop}{Q:Exit->St->Prop}{st:St}{i:Nat}(h:Q (.exit i) st):andThen K Q (.exit i) st:=h
theorem U5{id:Nat}{Q:Exit->St->Prop}{st:St}(h:Q .normal st):inB id Q .normal st:=h
theorem V7{id:Nat}{Q:Exit->St->Prop}{st:St}(h:Q .ret st):inB id Q .ret st:=h
theorem U6{id:Nat}{Q:Exit->St->Prop}{st:St}(h:Q .normal st):inB id Q (.exit id) st:=by
 show(match Nat.beq id id with|true=>Q .normal st|false=>Q (.exit id) st)
 rw[show Nat.beq id id=true from by simp];exact h
theorem Sd{id i:Nat}{Q:Exit->St->Prop}{st:St}(hi:Nat.beq i id=false)(h:Q (.exit i) st):inB id Q (.exit i) st:=by
 show(match Nat.beq i id with|true=>Q .normal st|false=>Q (.exit i) st)
 rw[hi];exact h
theorem VI{Q:AV->List AK->Prop}{st:St}(h:Ends P res Sf Q st):Ty P res Sf Q .ret st:=h
theorem Ed{Q:AV->List AK->Prop}{st:St}(h:Ends P res Sf Q st):Ty P res Sf Q .normal st:=h
theorem Be{Q:AV->List AK->Prop}{st:St}{a:AV}(h:BR st.T t=some a)(ha:ntup a=true)(hS:Sf.Sublist st.S)(hQ:Q a []):Ends P [.tmp t] Sf Q st:=
 ⟨[a],[a],st.S,[],.cons (.tmp h) ha .nil,.cons (.cell .same) .nil,hS,hQ⟩
theorem Cb{α β:Type}(f:α->β){l:List α}{i:Nat}(h:i<l.length):(l.map f)[i]?=some (f l[i]):=by simp[h]
theorem Fe(k:∀X,AOps ro P nt ops Q rest ⟨T,(X,.gone)::S⟩):AOps ro P nt ops Q rest ⟨T,S⟩:=.reserve k
theorem A9(k:∀X,AWP ro P nt c Q ⟨T,(X,.gone)::S⟩):AWP ro P nt c Q ⟨T,S⟩:=.reserve k
variable {c:Option (List Bool)}{x y z:Operand}{t ty2 t' te:TypeId}{g:Option (Nat×Bool)}{i j:Int}{k:IntKind}{p q X Y sz n:Nat}{l ls:List AV}{cs:List AV}{e:AV}
theorem OpT.index_strD{P:Program}{dst:Option Tmp}{x y:Operand}{t ty:TypeId}{pos:String}{after:Array Edge}{g:Option (Nat×Bool)}{k:IntKind}{i:Int}{s:List UInt8}{a:Nat}(ht:P.underlying t=some .string)(hq:i=(a:Int))(hi:a<s.length):OpT P ⟨dst,.index t x y,ty,pos,after,g⟩ [(x,.prim (EQ s)),(y,.prim (.int k i))] [] (.prim (.int .u8 ((s.getD a 0).toNat:Int))) []:=by
 rw[show s.getD a 0=s[a]from by simp[hi]];exact .index_str ht hq hi
section
variable {P:Program}{dst:Option Tmp}{x y:Operand}{t ty ty2:TypeId}{pos:String}{after:Array Edge}{g:Option (Nat×Bool)}{k k':IntKind}{i j:Int}{ats:Array TypeId}
theorem OpT.shl{n:Nat}(hj:j=(n:Int))(hn:n<=k.bits):OpT P ⟨dst,.binOp .shl t x y ty2,ty,pos,after,g⟩ [(x,.prim (.int k i)),(y,.prim (.int k' j))] [] (.prim (.int k (k.wrap (i*2^n)))) []:=
 Cx rfl (λw=>by
  subst hj;have h:¬((n:Int)<0):=by omega
  simp[binOp,Op.shift,h,AG,BJ hn]) (.inl ⟨by simp,by simp⟩)
theorem OpT.min2:OpT P ⟨dst,.call ⟨.builtin .min,#[x,y],ats⟩,ty,pos,after,g⟩ [(x,.prim (.int k i)),(y,.prim (.int k j))] [] (.prim (.int k (if j<i then j else i))) []:=
 .pure_ λm a hx _=>by
  have h1:=(hx (x,.prim (.int k i)) (by simp)).prim;have h2:=(hx (y,.prim (.int k j)) (by simp)).prim;simp only at h1 h2;refine⟨_,?_,Cc _⟩;rw[CK];simp[builtin,Builtin.min_,Builtin.min2,h1,h2,AI,AG,AA]
theorem OpT.max2:OpT P ⟨dst,.call ⟨.builtin .max,#[x,y],ats⟩,ty,pos,after,g⟩ [(x,.prim (.int k i)),(y,.prim (.int k j))] [] (.prim (.int k (if i<j then j else i))) []:=
 .pure_ λm a hx _=>by
  have h1:=(hx (x,.prim (.int k i)) (by simp)).prim;have h2:=(hx (y,.prim (.int k j)) (by simp)).prim;simp only at h1 h2;refine⟨_,?_,Cc _⟩;rw[CK];simp[builtin,Builtin.max_,Builtin.max2,h1,h2,AI,AG,AA]
end
namespace W
theorem move(hx:Rd c T x (v)):Stp c P ⟨dst,.move x,ty,pos,after,g⟩ T S [(x,v)] [] (v) []:=⟨.move,(.cons hx .nil),.nil⟩
theorem assign(hx:Rd c T x (v)):Stp c P ⟨dst,.assign x,ty,pos,after,g⟩ T S [(x,v)] [] (v) []:=⟨.assign,(.cons hx .nil),.nil⟩
theorem lss(hx:Rd c T x (.prim (.int k i)))(hy:Rd c T y (.prim (.int k j))):Stp c P ⟨dst,.binOp .lss t x y ty2,ty,pos,after,g⟩ T S [(x,.prim (.int k i)),(y,.prim (.int k j))] [] (.prim (.bool (decide (i<j)))) []:=⟨.lss,(.cons hx (.cons hy .nil)),.nil⟩
theorem leq(hx:Rd c T x (.prim (.int k i)))(hy:Rd c T y (.prim (.int k j))):Stp c P ⟨dst,.binOp .leq t x y ty2,ty,pos,after,g⟩ T S [(x,.prim (.int k i)),(y,.prim (.int k j))] [] (.prim (.bool (decide (i<=j)))) []:=⟨.leq,(.cons hx (.cons hy .nil)),.nil⟩
theorem gtr(hx:Rd c T x (.prim (.int k i)))(hy:Rd c T y (.prim (.int k j))):Stp c P ⟨dst,.binOp .gtr t x y ty2,ty,pos,after,g⟩ T S [(x,.prim (.int k i)),(y,.prim (.int k j))] [] (.prim (.bool (decide (j<i)))) []:=⟨.gtr,(.cons hx (.cons hy .nil)),.nil⟩
theorem geq(hx:Rd c T x (.prim (.int k i)))(hy:Rd c T y (.prim (.int k j))):Stp c P ⟨dst,.binOp .geq t x y ty2,ty,pos,after,g⟩ T S [(x,.prim (.int k i)),(y,.prim (.int k j))] [] (.prim (.bool (decide (j<=i)))) []:=⟨.geq,(.cons hx (.cons hy .nil)),.nil⟩
theorem eqI(hx:Rd c T x (.prim (.int k i)))(hy:Rd c T y (.prim (.int k j))):Stp c P ⟨dst,.binOp .eql t x y ty2,ty,pos,after,g⟩ T S [(x,.prim (.int k i)),(y,.prim (.int k j))] [] (.prim (.bool (decide (i=j)))) []:=⟨.eql_int,(.cons hx (.cons hy .nil)),.nil⟩
theorem neI(hx:Rd c T x (.prim (.int k i)))(hy:Rd c T y (.prim (.int k j))):Stp c P ⟨dst,.binOp .neq t x y ty2,ty,pos,after,g⟩ T S [(x,.prim (.int k i)),(y,.prim (.int k j))] [] (.prim (.bool (decide (i≠j)))) []:=⟨.neq_int,(.cons hx (.cons hy .nil)),.nil⟩
theorem eqS{a b:List UInt8}(hx:Rd c T x (.prim (EQ a)))(hy:Rd c T y (.prim (EQ b))):Stp c P ⟨dst,.binOp .eql t x y ty2,ty,pos,after,g⟩ T S [(x,.prim (EQ a)),(y,.prim (EQ b))] [] (.prim (.bool (decide (a=b)))) []:=⟨.eql_str,(.cons hx (.cons hy .nil)),.nil⟩
theorem neS{a b:List UInt8}(hx:Rd c T x (.prim (EQ a)))(hy:Rd c T y (.prim (EQ b))):Stp c P ⟨dst,.binOp .neq t x y ty2,ty,pos,after,g⟩ T S [(x,.prim (EQ a)),(y,.prim (EQ b))] [] (.prim (.bool (decide (a≠b)))) []:=⟨.neq_str,(.cons hx (.cons hy .nil)),.nil⟩
theorem add(hx:Rd c T x (.prim (.int .i64 i)))(hy:Rd c T y (.prim (.int .i64 j)))(h: -9223372036854775808<=i+j/\i+j<=9223372036854775807):Stp c P ⟨dst,.binOp .add t x y ty2,ty,pos,after,g⟩ T S [(x,.prim (.int .i64 i)),(y,.prim (.int .i64 j))] [] (.prim (.int .i64 (i+j))) []:=⟨.add h.1 h.2,(.cons hx (.cons hy .nil)),.nil⟩
theorem sub(hx:Rd c T x (.prim (.int .i64 i)))(hy:Rd c T y (.prim (.int .i64 j)))(h: -9223372036854775808<=i-j/\i-j<=9223372036854775807):Stp c P ⟨dst,.binOp .sub t x y ty2,ty,pos,after,g⟩ T S [(x,.prim (.int .i64 i)),(y,.prim (.int .i64 j))] [] (.prim (.int .i64 (i-j))) []:=⟨.sub h.1 h.2,(.cons hx (.cons hy .nil)),.nil⟩
theorem mul(hx:Rd c T x (.prim (.int .i64 i)))(hy:Rd c T y (.prim (.int .i64 j)))(h: -9223372036854775808<=i*j/\i*j<=9223372036854775807):Stp c P ⟨dst,.binOp .mul t x y ty2,ty,pos,after,g⟩ T S [(x,.prim (.int .i64 i)),(y,.prim (.int .i64 j))] [] (.prim (.int .i64 (i*j))) []:=⟨.mul h.1 h.2,(.cons hx (.cons hy .nil)),.nil⟩
theorem rem(hx:Rd c T x (.prim (.int k i)))(hy:Rd c T y (.prim (.int k j)))(h:j≠0):Stp c P ⟨dst,.binOp .rem t x y ty2,ty,pos,after,g⟩ T S [(x,.prim (.int k i)),(y,.prim (.int k j))] [] (.prim (.int k (i.tmod j))) []:=⟨.rem h,(.cons hx (.cons hy .nil)),.nil⟩
theorem quoW(hx:Rd c T x (.prim (.int k i)))(hy:Rd c T y (.prim (.int k j)))(h:j≠0):Stp c P ⟨dst,.binOp .quo t x y ty2,ty,pos,after,g⟩ T S [(x,.prim (.int k i)),(y,.prim (.int k j))] [] (.prim (.int k (k.wrap (i.tdiv j)))) []:=⟨.quo h,(.cons hx (.cons hy .nil)),.nil⟩
theorem shl{k':IntKind}(hx:Rd c T x (.prim (.int k i)))(hy:Rd c T y (.prim (.int k' j)))(hj:j=(m:Int))(hm:m<=k.bits):Stp c P ⟨dst,.binOp .shl t x y ty2,ty,pos,after,g⟩ T S [(x,.prim (.int k i)),(y,.prim (.int k' j))] [] (.prim (.int k (k.wrap (i*2^m)))) []:=⟨.shl hj hm,(.cons hx (.cons hy .nil)),.nil⟩
theorem min2(hx:Rd c T x (.prim (.int k i)))(hy:Rd c T y (.prim (.int k j))):Stp c P ⟨dst,.call ⟨.builtin .min,#[x,y],ats⟩,ty,pos,after,g⟩ T S [(x,.prim (.int k i)),(y,.prim (.int k j))] [] (.prim (.int k (if j<i then j else i))) []:=⟨.min2,(.cons hx (.cons hy .nil)),.nil⟩
theorem max2(hx:Rd c T x (.prim (.int k i)))(hy:Rd c T y (.prim (.int k j))):Stp c P ⟨dst,.call ⟨.builtin .max,#[x,y],ats⟩,ty,pos,after,g⟩ T S [(x,.prim (.int k i)),(y,.prim (.int k j))] [] (.prim (.int k (if i<j then j else i))) []:=⟨.max2,(.cons hx (.cons hy .nil)),.nil⟩
theorem not(hx:Rd c T x (.prim (.bool b))):Stp c P ⟨dst,.unOp .not t x,ty,pos,after,g⟩ T S [(x,.prim (.bool b))] [] (.prim (.bool !b)) []:=⟨.not,(.cons hx .nil),.nil⟩
theorem pick{va vb:AV}(hx:Rd c T x (.prim (.bool b)))(hy:Rd c T y (va))(hz:Rd c T z (vb)):Stp c P ⟨dst,.pick x y z,ty,pos,after,g⟩ T S [(x,.prim (.bool b)),(y,va),(z,vb)] [] (WC b va vb) []:=⟨.pick,(.cons hx (.cons hy (.cons hz .nil))),.nil⟩
theorem pickP{u1 u2:Value}(hx:Rd c T x (.prim (.bool b)))(hy:Rd c T y (.prim u1))(hz:Rd c T z (.prim u2)):Stp c P ⟨dst,.pick x y z,ty,pos,after,g⟩ T S [(x,.prim (.bool b)),(y,.prim u1),(z,.prim u2)] [] (.prim (if b then u1 else u2)) []:=⟨.pick_prim,(.cons hx (.cons hy (.cons hz .nil))),.nil⟩
theorem orQ{b d:Bool}(hx:Rd c T x (.prim (.bool b)))(hy:Rd c T y (.prim (.bool true)))(hz:Rd c T z (.opt (b==false) (.prim (.bool d)))):Stp c P ⟨dst,.pick x y z,ty,pos,after,g⟩ T S [(x,.prim (.bool b)),(y,.prim (.bool true)),(z,.opt (b==false) (.prim (.bool d)))] [] (.prim (.bool (b||d))) []:=⟨.or_opt,(.cons hx (.cons hy (.cons hz .nil))),.nil⟩
theorem andQ{b d:Bool}(hx:Rd c T x (.prim (.bool b)))(hy:Rd c T y (.opt (b==true) (.prim (.bool d))))(hz:Rd c T z (.prim (.bool false))):Stp c P ⟨dst,.pick x y z,ty,pos,after,g⟩ T S [(x,.prim (.bool b)),(y,.opt (b==true) (.prim (.bool d))),(z,.prim (.bool false))] [] (.prim (.bool (b&&d))) []:=⟨.and_opt,(.cons hx (.cons hy (.cons hz .nil))),.nil⟩
theorem extract{as:List AV}(hx:Rd c T x (.tup as))(h:as[m]?=some v):Stp c P ⟨dst,.extract x m,ty,pos,after,g⟩ T S [(x,.tup as)] [] (v) []:=⟨.extract h,(.cons hx .nil),.nil⟩
theorem loadF[TAg P t ag][TSize P t n](hx:Rd c T x (.fp cs))(h:Fm cs 0 n ag=some v):Stp c P ⟨dst,.load t x,ty,pos,after,g⟩ T S [(x,.fp cs)] [] (v) []:=⟨.load_fp TAg.h TSize.h h,(.cons hx .nil),.nil⟩
theorem load{a b:Nat}[TAg P t ag][TSize P t n](hx:Rd c T x (.ptr X a b))(hSp:At S p (X,.row t' sz l))(hi:l[a]?=some e)(h:Fm e.cells b n ag=some v):Stp c P ⟨dst,.load t x,ty,pos,after,g⟩ T S [(x,.ptr X a b)] [(p,(X,.row t' sz l))] (v) []:=⟨.load TAg.h TSize.h hi h,(.cons hx .nil),(.cons hSp .nil)⟩
theorem store{a b:Nat}[TSize P t n](hx:Rd c T x (.ptr X a b))(hy:Rd c T y (v))(hSp:At S p (X,.row t' sz l))(hi:l[a]?=some e)(h:Io e b n v=true):Stp c P ⟨dst,.store t x y,ty,pos,after,g⟩ T S [(x,.ptr X a b),(y,v)] [(p,(X,.row t' sz l))] (.dead) [(p,(X,.row t' sz (l.set a (EA e b v))))]:=⟨.store TSize.h hi h,(.cons hx (.cons hy .nil)),(.cons hSp .nil)⟩
theorem fieldF{f off:Nat}{ft:TypeId}[TFl P t f off ft][TSize P ft (n+1)](hx:Rd c T x (.fp cs))(h:MI cs=true):Stp c P ⟨dst,.fieldAddr t x f,ty,pos,after,g⟩ T S [(x,.fp cs)] [] (.fp (cs.drop off)) []:=⟨.fieldAddr_fp TFl.h TSize.h h,(.cons hx .nil),.nil⟩
theorem fieldA{f off a b:Nat}{ft:TypeId}[TFl P t f off ft][TSize P ft (n+1)](hx:Rd c T x (.ptr X a b))(hSp:At S p (X,.row t' sz l))(hi:a<l.length):Stp c P ⟨dst,.fieldAddr t x f,ty,pos,after,g⟩ T S [(x,.ptr X a b)] [(p,(X,.row t' sz l))] (.ptr X a (b+off)) []:=⟨.fieldAddr TFl.h TSize.h hi,(.cons hx .nil),(.cons hSp .nil)⟩
theorem field{f off:Nat}{ft:TypeId}[TFl P t f off ft][TAg P ft ag][TSize P ft n](hx:Rd c T x (.agg cs))(h:Fm cs off n ag=some v):Stp c P ⟨dst,.field t x f,ty,pos,after,g⟩ T S [(x,.agg cs)] [] (v) []:=⟨.field TFl.h TAg.h TSize.h h,(.cons hx .nil),.nil⟩
theorem idx{off m a b:Nat}[TEl P t te][TSize P te sz](hx:Rd c T x (.sl X off m))(hy:Rd c T y (.prim (.int k i)))(hSp:At S p (X,.row t' sz l))(hq:i=(a:Int))(ha:a<m)(hb:off+a=b):Stp c P ⟨dst,.indexAddr t x y,ty,pos,after,g⟩ T S [(x,.sl X off m),(y,.prim (.int k i))] [(p,(X,.row t' sz l))] (.ptr X b 0) []:=⟨.indexAddr TEl.h TSize.h hq ha hb,(.cons hx (.cons hy .nil)),(.cons hSp .nil)⟩
theorem idxL{a:Nat}[TEl P t te][TSize P te sz](hx:Rd c T x (.lst false t' sz l))(hy:Rd c T y (.prim (.int k i)))(hq:i=(a:Int))(hi:l[a]?=some e):Stp c P ⟨dst,.indexAddr t x y,ty,pos,after,g⟩ T S [(x,.lst false t' sz l),(y,.prim (.int k i))] [] (.fp e.cells) []:=⟨.indexAddr_lst TEl.h TSize.h hq hi,(.cons hx (.cons hy .nil)),.nil⟩
theorem lenS{off m:Nat}[TEl P t te](hx:Rd c T x (.sl X off m)):Stp c P ⟨dst,.call ⟨.builtin .len,#[x],#[t]⟩,ty,pos,after,g⟩ T S [(x,.sl X off m)] [] (.prim (.int .i64 (m:Int))) []:=⟨.len_sl TEl.h,(.cons hx .nil),.nil⟩
theorem lenL[TEl P t te](hx:Rd c T x (.lst false t' sz l)):Stp c P ⟨dst,.call ⟨.builtin .len,#[x],#[t]⟩,ty,pos,after,g⟩ T S [(x,.lst false t' sz l)] [] (.prim (.int .i64 (l.length:Int))) []:=⟨.len_lst (o:=false) TEl.h,(.cons hx .nil),.nil⟩
theorem lenN[TEl P t te](hx:Rd c T x (.prim (.slice none 0 0))):Stp c P ⟨dst,.call ⟨.builtin .len,#[x],#[t]⟩,ty,pos,after,g⟩ T S [(x,.prim (.slice none 0 0))] [] (.prim (.int .i64 0)) []:=⟨.len_nil TEl.h,(.cons hx .nil),.nil⟩
theorem lenStr{s:List UInt8}[TSg P t](hx:Rd c T x (.prim (EQ s))):Stp c P ⟨dst,.call ⟨.builtin .len,#[x],#[t]⟩,ty,pos,after,g⟩ T S [(x,.prim (EQ s))] [] (.prim (.int .i64 (s.length:Int))) []:=⟨.len_str TSg.h,(.cons hx .nil),.nil⟩
theorem idxStr{s:List UInt8}{a:Nat}[TSg P t](hx:Rd c T x (.prim (EQ s)))(hy:Rd c T y (.prim (.int k i)))(hq:i=(a:Int))(hi:a<s.length):Stp c P ⟨dst,.index t x y,ty,pos,after,g⟩ T S [(x,.prim (EQ s)),(y,.prim (.int k i))] [] (.prim (.int .u8 ((s.getD a 0).toNat:Int))) []:=⟨.index_strD TSg.h hq hi,(.cons hx (.cons hy .nil)),.nil⟩
theorem nilF(hx:Rd c T x (.fp cs)):Stp c P ⟨dst,.nilCheck x,ty,pos,after,g⟩ T S [(x,.fp cs)] [] (.fp cs) []:=⟨.nilCheck_fp,(.cons hx .nil),.nil⟩
theorem nilA{a b:Nat}(hx:Rd c T x (.ptr X a b))(hSp:At S p (X,.row t' sz l))(hi:a<l.length):Stp c P ⟨dst,.nilCheck x,ty,pos,after,g⟩ T S [(x,.ptr X a b)] [(p,(X,.row t' sz l))] (.ptr X a b) []:=⟨.nilCheck hi,(.cons hx .nil),(.cons hSp .nil)⟩
theorem hi{off m a:Nat}[TEl P t te][TSize P te sz](hx:Rd c T x (.sl X off m))(hy:Rd c T y (.prim (.int k i)))(hSp:At S p (X,.row t' sz l))(hq:i=(a:Int))(ha:a<=m):Stp c P ⟨dst,.slice t x none (some y) none,ty,pos,after,g⟩ T S [(x,.sl X off m),(y,.prim (.int k i))] [(p,(X,.row t' sz l))] (.sl X off a) []:=⟨.slice_hi TEl.h TSize.h hq ha,(.cons hx (.cons hy .nil)),(.cons hSp .nil)⟩
theorem hiL{a:Nat}[TEl P t te][TSize P te sz](hx:Rd c T x (.lst false t' sz l))(hy:Rd c T y (.prim (.int k i)))(hq:i=(a:Int))(ha:a<=l.length):Stp c P ⟨dst,.slice t x none (some y) none,ty,pos,after,g⟩ T S [(x,.lst false t' sz l),(y,.prim (.int k i))] [] (.lst false t' sz (l.take a)) []:=⟨.slice_lst_hi TEl.h TSize.h hq ha,(.cons hx (.cons hy .nil)),.nil⟩
theorem loL{a:Nat}[TEl P t te][TSize P te sz](hx:Rd c T x (.lst false t' sz l))(hy:Rd c T y (.prim (.int k i)))(hq:i=(a:Int))(ha:a<=l.length):Stp c P ⟨dst,.slice t x (some y) none none,ty,pos,after,g⟩ T S [(x,.lst false t' sz l),(y,.prim (.int k i))] [] (.lst false t' sz (l.drop a)) []:=⟨.slice_lst_lo TEl.h TSize.h hq ha,(.cons hx (.cons hy .nil)),.nil⟩
theorem box(hx:Rd c T x (v))(hSp:At S p (X,.gone))(hs:v.stor=true):Stp c P ⟨dst,.box t x,ty,pos,after,g⟩ T S [(x,v)] [(p,(X,.gone))] (.ptr X 0 0) [(p,(X,.row t v.width [v]))]:=⟨.box hs,(.cons hx .nil),(.cons hSp .nil)⟩
theorem alloc[TZe P t zl][TAg P t ag](hSp:At S p (X,.gone))(h:ag=true\/zl.length=1):Stp c P ⟨dst,.alloc t,ty,pos,after,g⟩ T S [] [(p,(X,.gone))] (.ptr X 0 0) [(p,(X,.row t zl.length [zAV zl ag]))]:=⟨.alloc TZe.h h,.nil,(.cons hSp .nil)⟩
theorem app{m by_:Nat}[TRo P t te sz by_](hx:Rd c T x (.sl X 0 m))(hy:Rd c T y (.lst false t' sz ls))(hSq:At S q (Y,.gone))(hSp:At S p (X,.row te sz l))(hn:m=l.length)(hb:(l.length+ls.length)*by_<=140737488355328)(hm:l.length+ls.length<=maxLen)(hqp:q≠p):Stp c P ⟨dst,.call ⟨.builtin .append,#[x,y],#[t,t]⟩,ty,pos,after,g⟩ T S [(x,.sl X 0 m),(y,.lst false t' sz ls)] [(q,(Y,.gone)),(p,(X,.row te sz l))] (.sl Y 0 (m+ls.length)) [(q,(X,.used)),(p,(Y,.row te sz (l++ls)))]:=⟨.append_lst TRo.h hn hb hm hqp,(.cons hx (.cons hy .nil)),(.cons hSq (.cons hSp .nil))⟩
theorem make{k':IntKind}{m d by_:Nat}[TEl P t te][TZe P te zl][TSize P te sz][TAg P te ag][TBy P te by_](hx:Rd c T x (.prim (.int k i)))(hy:Rd c T y (.prim (.int k' j)))(hSp:At S p (X,.gone))(hzs:zl.length=sz)(hag:ag=true\/zl.length=1)(hq:i=(m:Int))(hq':j=(d:Int))(hnc:m<=d)(hb:by_*d<=281474976710656)(hc:d<=maxLen):Stp c P ⟨dst,.makeSlice t x y,ty,pos,after,g⟩ T S [(x,.prim (.int k i)),(y,.prim (.int k' j))] [(p,(X,.gone))] (.sl X 0 m) [(p,(X,.row te sz (List.replicate m (zAV zl ag))))]:=⟨.makeSlice TEl.h TZe.h TSize.h hzs hag TBy.h hq hq' hnc hb hc,(.cons hx (.cons hy .nil)),(.cons hSp .nil)⟩
theorem WB{f:FuncId}{r:AV}(h:PS P f [] r)(ht:BT []=true):Stp c P ⟨dst,.call ⟨.value (.func f),#[],ats⟩,ty,pos,after,g⟩ T S [] [] r.frz []:=⟨.call (xs:=[]) h ht,.nil,.nil⟩
theorem callF0{f:FuncId}{r r':AV}(h:PS P f [] r)(ht:BT []=true)(hf:r.frz=r'):Stp c P ⟨dst,.call ⟨.value (.func f),#[],ats⟩,ty,pos,after,g⟩ T S [] [] r' []:=hf▸WB h ht
theorem build0[TSt P t zl pl](hf:F9 pl (zl.map .prim) []=some cs):Stp c P ⟨dst,.build t #[],ty,pos,after,g⟩ T S [] [] (.agg cs) []:=⟨.build (ps:=[]) TSt.h hf,.nil,.nil⟩
theorem call1{f:FuncId}{r:AV}(h0:Rd c T x0 v0)(h:PS P f [v0] r)(ht:BT [(x0,v0)]=true):Stp c P ⟨dst,.call ⟨.value (.func f),#[x0],ats⟩,ty,pos,after,g⟩ T S [(x0,v0)] [] r.frz []:=⟨.call (xs:=[(x0,v0)]) h ht,(.cons h0 .nil),.nil⟩
theorem callF1{f:FuncId}{r r':AV}(h0:Rd c T x0 v0)(h:PS P f [v0] r)(ht:BT [(x0,v0)]=true)(hf:r.frz=r'):Stp c P ⟨dst,.call ⟨.value (.func f),#[x0],ats⟩,ty,pos,after,g⟩ T S [(x0,v0)] [] r' []:=hf▸call1 h0 h ht
theorem build1{j0:Nat}[TSt P t zl pl](h0:Rd c T x0 v0)(hf:F9 pl (zl.map .prim) [(j0,v0)]=some cs):Stp c P ⟨dst,.build t #[(j0,x0)],ty,pos,after,g⟩ T S [(x0,v0)] [] (.agg cs) []:=⟨.build (ps:=[(j0,x0,v0)]) TSt.h hf,(.cons h0 .nil),.nil⟩
theorem lit1{j0:Nat}[TEl P t te][TZe P te zl][TSize P te sz][TAg P te ag](h0:Rd c T x0 v0)(hS:At S p (X,.gone))(hzs:zl.length=sz)(hag:ag=true\/zl.length=1)(hn:m*sz<=16777216)(hpos:0<m*sz)(hf:Eo sz (List.replicate m (zAV zl ag)) [(j0,v0)]=some l):Stp c P ⟨dst,.buildSlice t m #[(j0,x0)],ty,pos,after,g⟩ T S [(x0,v0)] [(p,(X,.gone))] (.sl X 0 m) [(p,(X,.row te sz l))]:=⟨.buildSlice (ps:=[(j0,x0,v0)]) TEl.h TZe.h TSize.h hzs hag hn hpos hf,(.cons h0 .nil),.cons hS .nil⟩
theorem func1{f:FuncId}(h0:Rd c T x0 v0)(hs:DG [v0]=true):Stp c P ⟨dst,.makeFunc (.func f) #[] #[x0],ty,pos,after,g⟩ T S [(x0,v0)] [] (.fn f [v0]) []:=⟨.makeFunc (xs:=[(x0,v0)]) hs,(.cons h0 .nil),.nil⟩
theorem call2{x0 x1:Operand}{v0 v1:AV}{f:FuncId}{r:AV}(h0:Rd c T x0 v0)(h1:Rd c T x1 v1)(h:PS P f [v0,v1] r)(ht:BT [(x0,v0),(x1,v1)]=true):Stp c P ⟨dst,.call ⟨.value (.func f),#[x0,x1],ats⟩,ty,pos,after,g⟩ T S [(x0,v0),(x1,v1)] [] r.frz []:=⟨.call (xs:=[(x0,v0),(x1,v1)]) h ht,(.cons h0 (.cons h1 .nil)),.nil⟩
theorem callF2{x0 x1:Operand}{v0 v1:AV}{f:FuncId}{r r':AV}(h0:Rd c T x0 v0)(h1:Rd c T x1 v1)(h:PS P f [v0,v1] r)(ht:BT [(x0,v0),(x1,v1)]=true)(hf:r.frz=r'):Stp c P ⟨dst,.call ⟨.value (.func f),#[x0,x1],ats⟩,ty,pos,after,g⟩ T S [(x0,v0),(x1,v1)] [] r' []:=hf▸call2 h0 h1 h ht
theorem build2{x0 x1:Operand}{v0 v1:AV}{j0 j1:Nat}[TSt P t zl pl](h0:Rd c T x0 v0)(h1:Rd c T x1 v1)(hf:F9 pl (zl.map .prim) [(j0,v0),(j1,v1)]=some cs):Stp c P ⟨dst,.build t #[(j0,x0),(j1,x1)],ty,pos,after,g⟩ T S [(x0,v0),(x1,v1)] [] (.agg cs) []:=⟨.build (ps:=[(j0,x0,v0),(j1,x1,v1)]) TSt.h hf,(.cons h0 (.cons h1 .nil)),.nil⟩
theorem func2{x0 x1:Operand}{v0 v1:AV}{f:FuncId}(h0:Rd c T x0 v0)(h1:Rd c T x1 v1)(hs:DG [v0,v1]=true):Stp c P ⟨dst,.makeFunc (.func f) #[] #[x0,x1],ty,pos,after,g⟩ T S [(x0,v0),(x1,v1)] [] (.fn f [v0,v1]) []:=⟨.makeFunc (xs:=[(x0,v0),(x1,v1)]) hs,(.cons h0 (.cons h1 .nil)),.nil⟩
theorem WA{x0 x1 x2:Operand}{v0 v1 v2:AV}{f:FuncId}{r:AV}(h0:Rd c T x0 v0)(h1:Rd c T x1 v1)(h2:Rd c T x2 v2)(h:PS P f [v0,v1,v2] r)(ht:BT [(x0,v0),(x1,v1),(x2,v2)]=true):Stp c P ⟨dst,.call ⟨.value (.func f),#[x0,x1,x2],ats⟩,ty,pos,after,g⟩ T S [(x0,v0),(x1,v1),(x2,v2)] [] r.frz []:=⟨.call (xs:=[(x0,v0),(x1,v1),(x2,v2)]) h ht,(.cons h0 (.cons h1 (.cons h2 .nil))),.nil⟩
theorem callF3{x0 x1 x2:Operand}{v0 v1 v2:AV}{f:FuncId}{r r':AV}(h0:Rd c T x0 v0)(h1:Rd c T x1 v1)(h2:Rd c T x2 v2)(h:PS P f [v0,v1,v2] r)(ht:BT [(x0,v0),(x1,v1),(x2,v2)]=true)(hf:r.frz=r'):Stp c P ⟨dst,.call ⟨.value (.func f),#[x0,x1,x2],ats⟩,ty,pos,after,g⟩ T S [(x0,v0),(x1,v1),(x2,v2)] [] r' []:=hf▸WA h0 h1 h2 h ht
theorem build3{x0 x1 x2:Operand}{v0 v1 v2:AV}{j0 j1 j2:Nat}[TSt P t zl pl](h0:Rd c T x0 v0)(h1:Rd c T x1 v1)(h2:Rd c T x2 v2)(hf:F9 pl (zl.map .prim) [(j0,v0),(j1,v1),(j2,v2)]=some cs):Stp c P ⟨dst,.build t #[(j0,x0),(j1,x1),(j2,x2)],ty,pos,after,g⟩ T S [(x0,v0),(x1,v1),(x2,v2)] [] (.agg cs) []:=⟨.build (ps:=[(j0,x0,v0),(j1,x1,v1),(j2,x2,v2)]) TSt.h hf,(.cons h0 (.cons h1 (.cons h2 .nil))),.nil⟩
theorem func3{x0 x1 x2:Operand}{v0 v1 v2:AV}{f:FuncId}(h0:Rd c T x0 v0)(h1:Rd c T x1 v1)(h2:Rd c T x2 v2)(hs:DG [v0,v1,v2]=true):Stp c P ⟨dst,.makeFunc (.func f) #[] #[x0,x1,x2],ty,pos,after,g⟩ T S [(x0,v0),(x1,v1),(x2,v2)] [] (.fn f [v0,v1,v2]) []:=⟨.makeFunc (xs:=[(x0,v0),(x1,v1),(x2,v2)]) hs,(.cons h0 (.cons h1 (.cons h2 .nil))),.nil⟩
theorem build4{x0 x1 x2 x3:Operand}{v0 v1 v2 v3:AV}{j0 j1 j2 j3:Nat}[TSt P t zl pl](h0:Rd c T x0 v0)(h1:Rd c T x1 v1)(h2:Rd c T x2 v2)(h3:Rd c T x3 v3)(hf:F9 pl (zl.map .prim) [(j0,v0),(j1,v1),(j2,v2),(j3,v3)]=some cs):Stp c P ⟨dst,.build t #[(j0,x0),(j1,x1),(j2,x2),(j3,x3)],ty,pos,after,g⟩ T S [(x0,v0),(x1,v1),(x2,v2),(x3,v3)] [] (.agg cs) []:=⟨.build (ps:=[(j0,x0,v0),(j1,x1,v1),(j2,x2,v2),(j3,x3,v3)]) TSt.h hf,(.cons h0 (.cons h1 (.cons h2 (.cons h3 .nil)))),.nil⟩
theorem func4{x0 x1 x2 x3:Operand}{v0 v1 v2 v3:AV}{f:FuncId}(h0:Rd c T x0 v0)(h1:Rd c T x1 v1)(h2:Rd c T x2 v2)(h3:Rd c T x3 v3)(hs:DG [v0,v1,v2,v3]=true):Stp c P ⟨dst,.makeFunc (.func f) #[] #[x0,x1,x2,x3],ty,pos,after,g⟩ T S [(x0,v0),(x1,v1),(x2,v2),(x3,v3)] [] (.fn f [v0,v1,v2,v3]) []:=⟨.makeFunc (xs:=[(x0,v0),(x1,v1),(x2,v2),(x3,v3)]) hs,(.cons h0 (.cons h1 (.cons h2 (.cons h3 .nil)))),.nil⟩
theorem build5{x0 x1 x2 x3 x4:Operand}{v0 v1 v2 v3 v4:AV}{j0 j1 j2 j3 j4:Nat}[TSt P t zl pl](h0:Rd c T x0 v0)(h1:Rd c T x1 v1)(h2:Rd c T x2 v2)(h3:Rd c T x3 v3)(h4:Rd c T x4 v4)(hf:F9 pl (zl.map .prim) [(j0,v0),(j1,v1),(j2,v2),(j3,v3),(j4,v4)]=some cs):Stp c P ⟨dst,.build t #[(j0,x0),(j1,x1),(j2,x2),(j3,x3),(j4,x4)],ty,pos,after,g⟩ T S [(x0,v0),(x1,v1),(x2,v2),(x3,v3),(x4,v4)] [] (.agg cs) []:=⟨.build (ps:=[(j0,x0,v0),(j1,x1,v1),(j2,x2,v2),(j3,x3,v3),(j4,x4,v4)]) TSt.h hf,(.cons h0 (.cons h1 (.cons h2 (.cons h3 (.cons h4 .nil))))),.nil⟩
theorem func5{x0 x1 x2 x3 x4:Operand}{v0 v1 v2 v3 v4:AV}{f:FuncId}(h0:Rd c T x0 v0)(h1:Rd c T x1 v1)(h2:Rd c T x2 v2)(h3:Rd c T x3 v3)(h4:Rd c T x4 v4)(hs:DG [v0,v1,v2,v3,v4]=true):Stp c P ⟨dst,.makeFunc (.func f) #[] #[x0,x1,x2,x3,x4],ty,pos,after,g⟩ T S [(x0,v0),(x1,v1),(x2,v2),(x3,v3),(x4,v4)] [] (.fn f [v0,v1,v2,v3,v4]) []:=⟨.makeFunc (xs:=[(x0,v0),(x1,v1),(x2,v2),(x3,v3),(x4,v4)]) hs,(.cons h0 (.cons h1 (.cons h2 (.cons h3 (.cons h4 .nil))))),.nil⟩
theorem build6{x0 x1 x2 x3 x4 x5:Operand}{v0 v1 v2 v3 v4 v5:AV}{j0 j1 j2 j3 j4 j5:Nat}[TSt P t zl pl](h0:Rd c T x0 v0)(h1:Rd c T x1 v1)(h2:Rd c T x2 v2)(h3:Rd c T x3 v3)(h4:Rd c T x4 v4)(h5:Rd c T x5 v5)(hf:F9 pl (zl.map .prim) [(j0,v0),(j1,v1),(j2,v2),(j3,v3),(j4,v4),(j5,v5)]=some cs):Stp c P ⟨dst,.build t #[(j0,x0),(j1,x1),(j2,x2),(j3,x3),(j4,x4),(j5,x5)],ty,pos,after,g⟩ T S [(x0,v0),(x1,v1),(x2,v2),(x3,v3),(x4,v4),(x5,v5)] [] (.agg cs) []:=⟨.build (ps:=[(j0,x0,v0),(j1,x1,v1),(j2,x2,v2),(j3,x3,v3),(j4,x4,v4),(j5,x5,v5)]) TSt.h hf,(.cons h0 (.cons h1 (.cons h2 (.cons h3 (.cons h4 (.cons h5 .nil)))))),.nil⟩
theorem func6{x0 x1 x2 x3 x4 x5:Operand}{v0 v1 v2 v3 v4 v5:AV}{f:FuncId}(h0:Rd c T x0 v0)(h1:Rd c T x1 v1)(h2:Rd c T x2 v2)(h3:Rd c T x3 v3)(h4:Rd c T x4 v4)(h5:Rd c T x5 v5)(hs:DG [v0,v1,v2,v3,v4,v5]=true):Stp c P ⟨dst,.makeFunc (.func f) #[] #[x0,x1,x2,x3,x4,x5],ty,pos,after,g⟩ T S [(x0,v0),(x1,v1),(x2,v2),(x3,v3),(x4,v4),(x5,v5)] [] (.fn f [v0,v1,v2,v3,v4,v5]) []:=⟨.makeFunc (xs:=[(x0,v0),(x1,v1),(x2,v2),(x3,v3),(x4,v4),(x5,v5)]) hs,(.cons h0 (.cons h1 (.cons h2 (.cons h3 (.cons h4 (.cons h5 .nil)))))),.nil⟩
theorem build7{x0 x1 x2 x3 x4 x5 x6:Operand}{v0 v1 v2 v3 v4 v5 v6:AV}{j0 j1 j2 j3 j4 j5 j6:Nat}[TSt P t zl pl](h0:Rd c T x0 v0)(h1:Rd c T x1 v1)(h2:Rd c T x2 v2)(h3:Rd c T x3 v3)(h4:Rd c T x4 v4)(h5:Rd c T x5 v5)(h6:Rd c T x6 v6)(hf:F9 pl (zl.map .prim) [(j0,v0),(j1,v1),(j2,v2),(j3,v3),(j4,v4),(j5,v5),(j6,v6)]=some cs):Stp c P ⟨dst,.build t #[(j0,x0),(j1,x1),(j2,x2),(j3,x3),(j4,x4),(j5,x5),(j6,x6)],ty,pos,after,g⟩ T S [(x0,v0),(x1,v1),(x2,v2),(x3,v3),(x4,v4),(x5,v5),(x6,v6)] [] (.agg cs) []:=⟨.build (ps:=[(j0,x0,v0),(j1,x1,v1),(j2,x2,v2),(j3,x3,v3),(j4,x4,v4),(j5,x5,v5),(j6,x6,v6)]) TSt.h hf,(.cons h0 (.cons h1 (.cons h2 (.cons h3 (.cons h4 (.cons h5 (.cons h6 .nil))))))),.nil⟩
theorem func7{x0 x1 x2 x3 x4 x5 x6:Operand}{v0 v1 v2 v3 v4 v5 v6:AV}{f:FuncId}(h0:Rd c T x0 v0)(h1:Rd c T x1 v1)(h2:Rd c T x2 v2)(h3:Rd c T x3 v3)(h4:Rd c T x4 v4)(h5:Rd c T x5 v5)(h6:Rd c T x6 v6)(hs:DG [v0,v1,v2,v3,v4,v5,v6]=true):Stp c P ⟨dst,.makeFunc (.func f) #[] #[x0,x1,x2,x3,x4,x5,x6],ty,pos,after,g⟩ T S [(x0,v0),(x1,v1),(x2,v2),(x3,v3),(x4,v4),(x5,v5),(x6,v6)] [] (.fn f [v0,v1,v2,v3,v4,v5,v6]) []:=⟨.makeFunc (xs:=[(x0,v0),(x1,v1),(x2,v2),(x3,v3),(x4,v4),(x5,v5),(x6,v6)]) hs,(.cons h0 (.cons h1 (.cons h2 (.cons h3 (.cons h4 (.cons h5 (.cons h6 .nil))))))),.nil⟩
end W
end
end
section
theorem OF{Zr:Zs}{z':AK×List Nat}:∀{S:List AK} {p:Nat} {e:AK},S[p]?=some e->Zr.map (·.1)=S.eraseIdx p->∃Z2:Zs,Z2.Perm (z'::Zr)/\Z2.map (·.1)=S.set p z'.1
 |[],p,e,h,_=>by simp at h
 |a::S,0,e,h,hm=>⟨z'::Zr,.refl _,by simpa using hm⟩
 |a::S,p+1,e,h,hm=>by
  simp only[List.eraseIdx_cons_succ]at hm;cases Zr with
  |nil=>simp at hm
  |cons zr Zr=>
   simp only[AR,CP]at hm;obtain⟨Z0,h1,h2⟩:=OF (Zr:=Zr) (z':=z') (S:=S) (p:=p) (e:=e) (by simpa using h) hm.2;exact⟨zr::Z0,(h1.cons zr).trans (DF ..),by simp[h2,hm.1]⟩
section
variable {P:Program}{dst:Option Tmp}{f:FuncId}{xs:List (Operand×AV)}{ats:Array TypeId}{ty:TypeId}{pos:String}{after:Array Edge}{g:Option (Nat×Bool)}{X p:Nat}{o o':AO}{r:AV}
def PO(P:Program)(f:FuncId)(args:List AV)(X:Nat)(o:AO)(r:AV)(o':AO):Prop:=Spec P f args [(X,o)] λr' S'=>r'=r/\S'=[(X,o')]
theorem Hp(h:PO P f (xs.map (·.2)) X o r o')(ht:BT xs=true:=by rfl):OpT P ⟨dst,.call ⟨.value (.func f),(xs.map (·.1)).toArray,ats⟩,ty,pos,after,g⟩ xs [(p,(X,o))] r.frz [(p,(X,o'))]:=by
 intro nt m0 T S a w hx hS hd hr;obtain⟨m,N,Z,rfl,h2,h3,h4⟩:=hr;have h2':Z.map (·.1)=S:=h2;have hSp:=hS (p,(X,o)) (by simp);simp only at hSp;have hSp2:=hSp;rw[<-h2',Cn]at hSp2;cases hz:Z[p]? with
 |none=>rw[hz]at hSp2;cases hSp2
 |some z=>
  rw[hz]at hSp2;simp only[Au,AU]at hSp2;have G1:=h3.perm (Gh hz);refine Ge (λ_=>rfl) h.fn ?_;refine(h.run (S.eraseIdx p) m N (z::Z.eraseIdx p) _ (by simp[hSp2,E0,h2']) G1.self (by have:=FK (DU ht) λq hq=>h4.ev (hx q hq);simpa[Cp]using this)).mono ?_;rintro e w' ⟨v,r',S',m',N',Z',br,rfl,rfl,hm,G',hv,rfl,rfl⟩;obtain⟨G2,hle⟩:=Good.freeze (ex:=br) (ex':=[]) (by simpa using h3.after G') _ rfl;cases Z' with
  |nil=>simp at hm
  |cons z' Zr=>
   simp only[AR,G6,EN,CP]at hm;obtain⟨Z2,h5,h6⟩:=OF (z':=z') hSp hm.2;refine⟨v,rfl,{m' with F:=λb=>m'.F b\/b∈br},N',Z2,rfl,?_,G2.perm h5.symm,((h4.mono G'.le).mono hle).put hd (VV.frz hle (λb hb=>⟨.inr hb,rfl⟩) hv)⟩;simp only[A5];rw[h6,hm.1]
end
theorem Jz{Sf S':List AK}{Q:AV->List AK->Prop}{st:St}{a:AV}(h:BR st.T t=some a)(ha:ntup a=true)(hS:(S'++Sf).Sublist st.S)(hQ:Q a S'):Ends P [.tmp t] Sf Q st:=
 ⟨[a],[a],st.S,S',.cons (.tmp h) ha .nil,.cons (.cell .same) .nil,hS,hQ⟩
namespace W
variable {P:Program}{dst:Option Tmp}{ty:TypeId}{pos:String}{after:Array Edge}{g:Option (Nat×Bool)}{T:List (Nat×AV)}{S:List AK}{c:Option (List Bool)}{X p:Nat}{o o':AO}{r r':AV}{f:FuncId}{ats:Array TypeId}
theorem callO1(h0:Rd c T x0 v0)(hSp:At S p (X,o))(h:PO P f [v0] X o r o')(ht:BT [(x0,v0)]=true)(hf:r.frz=r'):Stp c P ⟨dst,.call ⟨.value (.func f),#[x0],ats⟩,ty,pos,after,g⟩ T S [(x0,v0)] [(p,(X,o))] r' [(p,(X,o'))]:=⟨hf▸Hp (xs:=[(x0,v0)]) h ht,(.cons h0 .nil),.cons hSp .nil⟩
theorem callO2{x0 x1:Operand}{v0 v1:AV}(h0:Rd c T x0 v0)(h1:Rd c T x1 v1)(hSp:At S p (X,o))(h:PO P f [v0,v1] X o r o')(ht:BT [(x0,v0),(x1,v1)]=true)(hf:r.frz=r'):Stp c P ⟨dst,.call ⟨.value (.func f),#[x0,x1],ats⟩,ty,pos,after,g⟩ T S [(x0,v0),(x1,v1)] [(p,(X,o))] r' [(p,(X,o'))]:=⟨hf▸Hp (xs:=[(x0,v0),(x1,v1)]) h ht,(.cons h0 (.cons h1 .nil)),.cons hSp .nil⟩
theorem callO4{x0 x1 x2 x3:Operand}{v0 v1 v2 v3:AV}(h0:Rd c T x0 v0)(h1:Rd c T x1 v1)(h2:Rd c T x2 v2)(h3:Rd c T x3 v3)(hSp:At S p (X,o))(h:PO P f [v0,v1,v2,v3] X o r o')(ht:BT [(x0,v0),(x1,v1),(x2,v2),(x3,v3)]=true)(hf:r.frz=r'):Stp c P ⟨dst,.call ⟨.value (.func f),#[x0,x1,x2,x3],ats⟩,ty,pos,after,g⟩ T S [(x0,v0),(x1,v1),(x2,v2),(x3,v3)] [(p,(X,o))] r' [(p,(X,o'))]:=⟨hf▸Hp (xs:=[(x0,v0),(x1,v1),(x2,v2),(x3,v3)]) h ht,(.cons h0 (.cons h1 (.cons h2 (.cons h3 .nil)))),.cons hSp .nil⟩
theorem callO5{x0 x1 x2 x3 x4:Operand}{v0 v1 v2 v3 v4:AV}(h0:Rd c T x0 v0)(h1:Rd c T x1 v1)(h2:Rd c T x2 v2)(h3:Rd c T x3 v3)(h4:Rd c T x4 v4)(hSp:At S p (X,o))(h:PO P f [v0,v1,v2,v3,v4] X o r o')(ht:BT [(x0,v0),(x1,v1),(x2,v2),(x3,v3),(x4,v4)]=true)(hf:r.frz=r'):Stp c P ⟨dst,.call ⟨.value (.func f),#[x0,x1,x2,x3,x4],ats⟩,ty,pos,after,g⟩ T S [(x0,v0),(x1,v1),(x2,v2),(x3,v3),(x4,v4)] [(p,(X,o))] r' [(p,(X,o'))]:=⟨hf▸Hp (xs:=[(x0,v0),(x1,v1),(x2,v2),(x3,v3),(x4,v4)]) h ht,(.cons h0 (.cons h1 (.cons h2 (.cons h3 (.cons h4 .nil))))),.cons hSp .nil⟩
end W
end
section
variable {ro:Option Nat}
mutual
inductive Ic(B:AV->AV->Prop):AV->AV->Prop
 |same {a:AV}:Ic B a a
 |base {a b:AV} (h:B a b):Ic B a b
 |agg {as bs:List AV} (h:Ics B as bs):Ic B (.agg as) (.agg bs)
inductive Ics(B:AV->AV->Prop):List AV->List AV->Prop
 |nil:Ics B [] []
 |cons {a b:AV} {as bs:List AV} (h:Ic B a b) (k:Ics B as bs):Ics B (a::as) (b::bs)
end
inductive IceB(X:Nat)(t:TypeId)(sz:Nat)(l:List AV):AV->AV->Prop
 |sl {off n:Nat} (h:off+n<=l.length):IceB X t sz l (.sl X off n) (.lst false t sz (AV.frzs ((l.drop off).take n)))
inductive AdB(X:Nat):AV->AV->Prop
 |nil:AdB X (.prim (.slice none 0 0)) (.sl X 0 0)
section
variable {X:Nat}{t:TypeId}{sz:Nat}{l:List AV}{m m':Mem}{B:AV->AV->Prop}
def Wd1(B:AV->AV->Prop):Prop:=∀a b,B a b->b.width=a.width
def Vc1(B:AV->AV->Prop)(m m':Mem):Prop:=∀a b,B a b->∀c bs,VC m a c bs->VC m' b c bs
theorem IceB.wd1:Wd1 (IceB X t sz l):=λa b h=>by cases h;rfl
theorem AdB.wd1:Wd1 (AdB X):=λa b h=>by cases h;rfl
theorem IceB.vc1(hv:∀off n c,off+n<=l.length->VC m (.sl X off n) c []->VC m' (.lst false t sz (AV.frzs ((l.drop off).take n))) c []):Vc1 (IceB X t sz l) m m':=λa b h c bs k=>by
 cases h with
 |sl h=>
  obtain rfl:=k.1;exact hv _ _ _ h k
theorem AdB.vc1(hv:VC m' (.sl X 0 0) [.slice none 0 0] []):Vc1 (AdB X) m m':=λa b h c bs k=>by
 cases h with
 |nil=>
  obtain⟨⟨rfl,_⟩,rfl⟩:=k;exact hv
mutual
theorem Ic.width(hB:Wd1 B):{a b:AV}->Ic B a b->b.width=a.width
 |_,_,.same=>rfl
 |_,_,.base h=>hB _ _ h
 |_,_,.agg h=>Ics.widths hB h
theorem Ics.widths(hB:Wd1 B):{a b:List AV}->Ics B a b->AV.widths b=AV.widths a
 |_,_,.nil=>rfl
 |_,_,.cons h k=>by simp only[AV.widths,Ic.width hB h,Ics.widths hB k]
end
mutual
theorem Ic.vc(hle:m.Le m')(hB:Vc1 B m m')(hw:m'.w=m.w):{a b:AV}->Ic B a b->{c:List Value}->{bs:List Nat}->VC m a c bs->VC m' b c bs
 |a,_,.same,_,_,k=>VC.mono hle a (λ_ _=>by rw[hw]) k
 |_,_,.base h,_,_,k=>hB _ _ h _ _ k
 |_,_,.agg h,_,_,k=>Ics.vcs hle hB hw h k
theorem Ics.vcs(hle:m.Le m')(hB:Vc1 B m m')(hw:m'.w=m.w):{a b:List AV}->Ics B a b->{c:List Value}->{bs:List Nat}->VCs m a c bs->VCs m' b c bs
 |_,_,.nil,_,_,k=>k
 |_,_,.cons h k,_,_,⟨c1,c2,b1,b2,e1,e2,k1,k2⟩=>⟨c1,c2,b1,b2,e1,e2,Ic.vc hle hB hw h k1,Ics.vcs hle hB hw k k2⟩
end
theorem Ics.len{a b:List AV}(h:Ics B a b):b.length=a.length:=by
 induction a generalizing b with
 |nil=>cases h;rfl
 |cons x a ih=>cases h with|cons h k=>simp[ih k]
theorem Ics.wd(hB:Wd1 B){a b:List AV}(h:Ics B a b)(hw:∀e∈a,e.width=n):∀e∈b,e.width=n:=by
 induction a generalizing b with
 |nil=>cases h;intro e he;cases he
 |cons x a ih=>
  cases h with
  |cons h k=>
   intro e he;rcases AW.1 he with rfl|he
   ·rw[h.width hB];exact hw x (by simp)
   ·exact ih k (λe he=>hw e (by simp[he])) e he
theorem Ics.orel{l2 l2':List AV}(hI:Ics B l2 l2')(hle:m.Le m')(hμ:∀L,m.μ Y=some L->m'.μ Y=some L)(hBw:Wd1 B)(hB:Vc1 B m m')(hw:m'.w=m.w)(h:ORel m Y (.row t2 sz2 l2) bs):ORel m' Y (.row t2 sz2 l2') bs:=by
 obtain⟨hU,L,h1,h2,h3⟩:=h;refine⟨hle.U _ hU,L,hμ L h1,h2,?_⟩;rcases h3 with⟨h4,rfl,h5⟩|⟨h4,arr,bs',h5,h6,h7,h8,h9,h10,h11⟩
 ·cases hI;exact .inl ⟨h4,rfl,h5⟩
 ·refine .inr ⟨h4,arr,bs',h5,by rw[hw];exact h6,h7,by rw[hI.len];exact h8,h9,hI.wd hBw h10,?_⟩
  rw[hI.len];exact Ics.vcs hle hB hw hI h11
theorem Lp{N:Nat}{ex bs:List Nat}{A R:Zs}{o o':AO}(G:Good m0 m N (A++((Y,o),bs)::R) ex)(h:ORel m Y o' bs):Good m0 m N (A++((Y,o'),bs)::R) ex:=by
 have e1:Zs.own (A++((Y,o'),bs)::R)=Zs.own (A++((Y,o),bs)::R):=by simp[Zs.own]
 have e2:Zs.keys (A++((Y,o'),bs)::R)=Zs.keys (A++((Y,o),bs)::R):=by simp[Zs.keys]
 refine⟨λz hz=>?_,by rw[e1];exact G.own,by rw[e1];exact G.blk,G.frz,by rw[e2];exact G.keys,by rw[e2];exact G.keyN,G.usedN,G.le,G.os,G.tape,G.output,G.size⟩;rcases AN.1 hz with hz|hz
 ·exact G.obj z (by simp[hz])
 ·rcases AW.1 hz with rfl|hz
  ·exact h
  ·exact G.obj z (by simp[hz])
theorem St.iceIn{st:St}{p q Y:Nat}{l2 l2':List AV}(hpq:p≠q)(hS:At st.S p (X,.row t sz l))(hq:At st.S q (Y,.row t2 sz2 l2))(hI:Ics (IceB X t sz l) l2 l2'):Fu nt st λst'=>st'=⟨st.T,(st.S.set p (X,.used)).set q (Y,.row t2 sz2 l2')⟩:=by
 rintro m0 a w ⟨m,N,Z,rfl,h2,h3,h4⟩;obtain⟨bs,hz⟩:=hS.z h2;obtain⟨bs2,hz2⟩:=hq.z h2;obtain⟨R,hp1,hp2⟩:=Hf hpq hz hz2;have G0:=h3.perm hp1;obtain⟨m',hw,G',hle,hv,_⟩:=G0.iced;have hY:ORel m Y (.row t2 sz2 l2) bs2:=G0.obj ((Y,.row t2 sz2 l2),bs2) (by simp);have hY':ORel m' Y (.row t2 sz2 l2) bs2:=G'.obj ((Y,.row t2 sz2 l2),bs2) (by simp)
 have hμ:∀L,m.μ Y=some L->m'.μ Y=some L:=by
  intro L hL;obtain⟨_,L',h5,_⟩:=hY';have:=hle.μ Y L' hY.1 h5;rw[hL]at this;injection this with this
  rw[this];exact h5
 have G2:=Lp (A:=[((X,AO.used),[])]) G' (hI.orel hle hμ IceB.wd1 (IceB.vc1 hv) hw hY);exact⟨⟨st.T,(st.S.set p (X,.used)).set q (Y,.row t2 sz2 l2')⟩,⟨m',N,(Z.set p ((X,.used),[])).set q ((Y,.row t2 sz2 l2'),bs2),hw,by rw[A8,A8,h2],G2.perm (hp2 _ _).symm,h4.mono hle⟩,rfl⟩
theorem St.adoptIn{st:St}{q Y:Nat}{l2:List AV}(t:TypeId)(sz:Nat)(hq:At st.S q (Y,.row t2 sz2 l2))(hI:∀X,Ics (AdB X) l2 (l2' X)):Fu nt st λst'=>∃X,st'=⟨st.T,(X,.row t sz [])::st.S.set q (Y,.row t2 sz2 (l2' X))⟩:=by
 rintro m0 a w ⟨m,N,Z,rfl,h2,h3,h4⟩;obtain⟨bs2,hz2⟩:=hq.z h2;obtain⟨R,hp1,hp2⟩:=DC hz2;have G0:=h3.perm hp1;obtain⟨m',hw,G',hle,hv⟩:=G0.adopt t sz;have hY:ORel m Y (.row t2 sz2 l2) bs2:=G0.obj ((Y,.row t2 sz2 l2),bs2) (by simp);have hY':ORel m' Y (.row t2 sz2 l2) bs2:=G'.obj ((Y,.row t2 sz2 l2),bs2) (by simp)
 have hμ:∀L,m.μ Y=some L->m'.μ Y=some L:=by
  intro L hL;obtain⟨_,L',h5,_⟩:=hY';have:=hle.μ Y L' hY.1 h5;rw[hL]at this;injection this with this
  rw[this];exact h5
 have G2:=Lp (A:=[((N,AO.row t sz []),[])]) G' ((hI N).orel hle hμ AdB.wd1 (AdB.vc1 hv) hw hY);exact⟨⟨st.T,(N,.row t sz [])::st.S.set q (Y,.row t2 sz2 (l2' N))⟩,⟨m',N+1,((N,.row t sz []),[])::Z.set q ((Y,.row t2 sz2 (l2' N)),bs2),hw,by rw[AR,A8,h2],G2.perm ((hp2 _).symm.cons _),h4.mono hle⟩,N,rfl⟩
theorem C1{q Y:Nat}{l2:List AV}(t:TypeId)(sz:Nat)(hq:At S q (Y,.row t2 sz2 l2))(hI:∀X,Ics (AdB X) l2 (l2' X))(k:∀X,AWP ro P nt c Q ⟨T,(X,.row t sz [])::S.set q (Y,.row t2 sz2 (l2' X))⟩):AWP ro P nt c Q ⟨T,S⟩:=
 .ghost (St.adoptIn (st:=⟨T,S⟩) t sz hq hI) λst' ⟨X,e⟩=>by subst e;exact k X
theorem Ht{p q Y:Nat}{l2 l2':List AV}(hS:At S p (X,.row t sz l))(hq:At S q (Y,.row t2 sz2 l2))(hpq:Nat.beq p q=false)(hI:Ics (IceB X t sz l) l2 l2')(k:AWP ro P nt c Q ⟨T,(S.set p (X,.used)).set q (Y,.row t2 sz2 l2')⟩):AWP ro P nt c Q ⟨T,S⟩:=
 .ghost (St.iceIn (st:=⟨T,S⟩) (λe=>by subst e;simp at hpq) hS hq hI) λst' e=>by subst e;exact k
theorem Uq{p d n:Nat}(hd:BR T d=some (.sl X 0 n))(hS:At S p (X,.row t sz l))(hn:n=l.length)(k:AWP ro P nt c Q ⟨(d,.lst false t sz (AV.frzs l))::T,S.set p (X,.used)⟩):AWP ro P nt c Q ⟨T,S⟩:=
 .ghost (St.ice (st:=⟨T,S⟩) hd hS hn) λst' e=>by subst e;exact k
theorem AWP.adopt{d:Nat}(t:TypeId)(sz:Nat)(hd:BR T d=some (.prim (.slice none 0 0)))(k:∀X,AWP ro P nt c Q ⟨(d,.sl X 0 0)::T,(X,.row t sz [])::S⟩):AWP ro P nt c Q ⟨T,S⟩:=
 .ghost (St.adopt (st:=⟨T,S⟩) t sz hd) λst' ⟨X,e⟩=>by subst e;exact k X
end
end
section
theorem Mu:∀(xs:List (Nat×AV)) (l l':List AV),Eo sz l xs=some l' ->l'.length=l.length
 |[],l,l',h=>by injection h with h;rw[h]
 |(i,v)::r,l,l',h=>by
  unfold Eo at h;split at h
  ·cases h
  ·rw[Mu r _ _ h,By]
theorem Rel.sub{S S':List AK}{w:World}(h:Rel nt m0 ⟨T,S⟩ a w)(k:S'.Sublist S):Rel nt m0 ⟨T,S'⟩ a w:=by
 obtain⟨m,N,Z,h1,h2,h3,h4⟩:=h;obtain⟨Z',hs,hm⟩:=KZ _ k h2;exact⟨m,N,Z',h1,hm,h3.sub hs,h4⟩
class Frz(a:AV)(b:outParam AV):Prop where h:a.frz=b
class Frzs(a:List AV)(b:outParam (List AV)):Prop where h:AV.frzs a=b
instance {u:Value}:Frz (.prim u) (.prim u):=⟨rfl⟩
instance {x o l:Nat}:Frz (.sl x o l) (.sl x o l):=⟨rfl⟩
instance {x o l:Nat}:Frz (.ptr x o l) (.ptr x o l):=⟨rfl⟩
instance {o:Bool}{t:TypeId}{sz:Nat}{l l':List AV}[h:Frzs l l']:Frz (.lst o t sz l) (.lst false t sz l'):=⟨by show AV.lst false t sz (AV.frzs l)=_;rw[h.h]⟩
instance {l l':List AV}[h:Frzs l l']:Frz (.agg l) (.agg l'):=⟨by show AV.agg (AV.frzs l)=_;rw[h.h]⟩
instance {l l':List AV}[h:Frzs l l']:Frz (.tup l) (.tup l'):=⟨by show AV.tup (AV.frzs l)=_;rw[h.h]⟩
instance:Frzs [] []:=⟨rfl⟩
instance {a b:AV}{l l':List AV}[h:Frz a b][k:Frzs l l']:Frzs (a::l) (b::l'):=⟨by show AV.frz a::AV.frzs l=_;rw[h.h,k.h]⟩
instance {α:Type}{f g:α->AV}{l:List α}[h:∀a,Frz (f a) (g a)]:Frzs (l.map f) (l.map g):=⟨by rw[Fp,Ct];exact FU λa _=>(h a).h⟩
def over:List AV->List AV->List AV
 |w::ws,_::cs=>w::over ws cs
 |_,cs=>cs
def F4:List AV->Nat->List AV->List AV
 |cs,0,ws=>over ws cs
 |c::cs,k+1,ws=>c::F4 cs k ws
 |[],_+1,_=>[]
def GO:List (Nat×Nat)->Nat->Nat
 |(o,_)::_,0=>o
 |_::r,i+1=>GO r i
 |[],_=>0
def EW(pl:List (Nat×Nat)):List AV->List (Nat×AV)->List AV
 |cs,[]=>cs
 |cs,(i,v)::r=>EW pl (F4 cs (GO pl i) v.cells) r
def VK:AV->Nat->AV->AV
 |.agg cs,k,v=>.agg (F4 cs k v.cells)
 |_,_,v=>v
theorem C4{l cs:List AV}{xs:List (Nat×AV)}(h:EW pl l xs=cs)(k:F9 pl l xs=some (EW pl l xs)):F9 pl l xs=some cs:=h▸k
theorem Tt{l l':List AV}{a b:Nat}{e v:AV}(h:l.set a (VK e b v)=l')(k:EA e b v=VK e b v):l.set a (EA e b v)=l':=k▸h
section
variable {P:Program}{dst:Option Tmp}{ty t te:TypeId}{pos:String}{after:Array Edge}{g:Option (Nat×Bool)}{sz:Nat}
theorem Eq{ps:List (Nat×Operand×AV)}(he:Dn P t=some te)(hz:tZ P te=some zl)(hsz:tSz P te=some sz)(hzs:zl.length=sz)(hag:ag=true\/zl.length=1)(hn:n*sz<=16777216)(h0:0<n*sz)
  (hf:Eo sz (List.replicate n (zAV zl ag)) (ps.map λq=>(q.1,q.2.2))=some l):OpT P ⟨dst,.buildSlice t n (ps.map λq=>(q.1,q.2.1)).toArray,ty,pos,after,g⟩ (ps.map (·.2)) [] (.lst false te sz (AV.frzs l)) []:=by
 intro nt m0 T S a w hx hS hd hr;obtain⟨_,hr',X,rfl⟩:=St.reserve (nt:=nt) ⟨T,S⟩ m0 a w hr;have hl:n=l.length:=by rw[Mu _ _ _ hf,Ci]
 refine Tg (λa' w' h=>?_) (OpT.buildSlice (dst:=dst) (ty:=ty) (t:=t) (pos:=pos) (after:=after) (g:=g) (X:=X) (p:=0) he hz hsz hzs hag hn h0 hf nt m0 T ((X,.gone)::S) a w hx (by simp) hd hr');cases dst with
 |none=>exact Rel.sub h (.cons _ (.refl _))
 |some d=>
  obtain⟨_,h2,rfl⟩:=St.ice (nt:=nt) (st:=⟨A6 T (some d) (.sl X 0 n),A5 ((X,.gone)::S) [(0,(X,.row te sz l))]⟩) (d:=d) (n:=n) (p:=0) (X:=X) (t:=te) (sz:=sz) (l:=l) (by simp[A6,Bx]) .here hl m0 a' w' h;refine Rel.sub (Jd h2 λe v he=>?_) (.cons _ (.refl _));simp only[A6,Bx]at he⊢;by_cases e':e=d
  ·simpa[e']using he
  ·simpa[e']using he
end
namespace W
theorem storeN{ty t t':TypeId}{c:Option (List Bool)}{l l':List AV}{x y:Operand}{X p sz n a b:Nat}{e v:AV}[TSize P t n](hx:Rd c T x (.ptr X a b))(hy:Rd c T y v)(hSp:At S p (X,.row t' sz l))(hi:l[a]?=some e)(h:Io e b n v=true)(hl:l.set a (EA e b v)=l'):Stp c P ⟨dst,.store t x y,ty,pos,after,g⟩ T S [(x,.ptr X a b),(y,v)] [(p,(X,.row t' sz l))] .dead [(p,(X,.row t' sz l'))]:=hl▸W.store hx hy hSp hi h
theorem allocN{ty t:TypeId}{c:Option (List Bool)}{X p:Nat}{a:AV}[TZe P t zl][TAg P t ag](hSp:At S p (X,.gone))(h:ag=true\/zl.length=1)(hz:zAV zl ag=a)(hn:zl.length=n):Stp c P ⟨dst,.alloc t,ty,pos,after,g⟩ T S [] [(p,(X,.gone))] (.ptr X 0 0) [(p,(X,.row t n [a]))]:=hz▸hn▸W.alloc hSp h
theorem loadW{ty t t':TypeId}{c:Option (List Bool)}{X p sz n a:Nat}{e:AV}[TAg P t true][TSize P t n](hx:Rd c T x (.ptr X a 0))(hSp:At S p (X,.row t' sz l))(hi:l[a]?=some e)(h:Fm e.cells 0 n true=some e):Stp c P ⟨dst,.load t x,ty,pos,after,g⟩ T S [(x,.ptr X a 0)] [(p,(X,.row t' sz l))] e []:=W.load hx hSp hi h
theorem loadFW{ty t:TypeId}{c:Option (List Bool)}{e:AV}[TAg P t true][TSize P t n](hx:Rd c T x (.fp e.cells))(h:Fm e.cells 0 n true=some e):Stp c P ⟨dst,.load t x,ty,pos,after,g⟩ T S [(x,.fp e.cells)] [] e []:=W.loadF hx h
variable {P:Program}{dst:Option Tmp}{ty t te:TypeId}{pos:String}{after:Array Edge}{g:Option (Nat×Bool)}{sz:Nat}{T:List (Nat×AV)}{S:List AK}{c:Option (List Bool)}{l l':List AV}
theorem litF0[TEl P t te][TZe P te zl][TSize P te sz][TAg P te ag](hzs:zl.length=sz)(hag:ag=true\/zl.length=1)(hn:0*sz<=16777216)(hpos:0<0*sz)(hf:Eo sz (List.replicate 0 (zAV zl ag)) []=some [])[hz:Frzs [] l']:Stp c P ⟨dst,.buildSlice t 0 #[],ty,pos,after,g⟩ T S [] [] (.lst false te sz l') []:=⟨hz.h▸Eq (ps:=[]) TEl.h TZe.h TSize.h hzs hag hn hpos hf,.nil,.nil⟩
theorem litF1[TEl P t te][TZe P te zl][TSize P te sz][TAg P te ag](h0:Rd c T x0 v0)(hzs:zl.length=sz)(hag:ag=true\/zl.length=1)(hn:1*sz<=16777216)(hpos:0<1*sz)(hf:Eo sz (List.replicate 1 (zAV zl ag)) [(0,v0)]=some [v0])[hz:Frzs [v0] l']:Stp c P ⟨dst,.buildSlice t 1 #[(0,x0)],ty,pos,after,g⟩ T S [(x0,v0)] [] (.lst false te sz l') []:=⟨hz.h▸Eq (ps:=[(0,x0,v0)]) TEl.h TZe.h TSize.h hzs hag hn hpos hf,(.cons h0 .nil),.nil⟩
theorem litF2[TEl P t te][TZe P te zl][TSize P te sz][TAg P te ag](h0:Rd c T x0 v0)(h1:Rd c T x1 v1)(hzs:zl.length=sz)(hag:ag=true\/zl.length=1)(hn:2*sz<=16777216)(hpos:0<2*sz)(hf:Eo sz (List.replicate 2 (zAV zl ag)) [(0,v0),(1,v1)]=some [v0,v1])[hz:Frzs [v0,v1] l']:Stp c P ⟨dst,.buildSlice t 2 #[(0,x0),(1,x1)],ty,pos,after,g⟩ T S [(x0,v0),(x1,v1)] [] (.lst false te sz l') []:=⟨hz.h▸Eq (ps:=[(0,x0,v0),(1,x1,v1)]) TEl.h TZe.h TSize.h hzs hag hn hpos hf,(.cons h0 (.cons h1 .nil)),.nil⟩
theorem litF3[TEl P t te][TZe P te zl][TSize P te sz][TAg P te ag](h0:Rd c T x0 v0)(h1:Rd c T x1 v1)(h2:Rd c T x2 v2)(hzs:zl.length=sz)(hag:ag=true\/zl.length=1)(hn:3*sz<=16777216)(hpos:0<3*sz)(hf:Eo sz (List.replicate 3 (zAV zl ag)) [(0,v0),(1,v1),(2,v2)]=some [v0,v1,v2])[hz:Frzs [v0,v1,v2] l']:Stp c P ⟨dst,.buildSlice t 3 #[(0,x0),(1,x1),(2,x2)],ty,pos,after,g⟩ T S [(x0,v0),(x1,v1),(x2,v2)] [] (.lst false te sz l') []:=⟨hz.h▸Eq (ps:=[(0,x0,v0),(1,x1,v1),(2,x2,v2)]) TEl.h TZe.h TSize.h hzs hag hn hpos hf,(.cons h0 (.cons h1 (.cons h2 .nil))),.nil⟩
theorem litF4[TEl P t te][TZe P te zl][TSize P te sz][TAg P te ag](h0:Rd c T x0 v0)(h1:Rd c T x1 v1)(h2:Rd c T x2 v2)(h3:Rd c T x3 v3)(hzs:zl.length=sz)(hag:ag=true\/zl.length=1)(hn:4*sz<=16777216)(hpos:0<4*sz)(hf:Eo sz (List.replicate 4 (zAV zl ag)) [(0,v0),(1,v1),(2,v2),(3,v3)]=some [v0,v1,v2,v3])[hz:Frzs [v0,v1,v2,v3] l']:Stp c P ⟨dst,.buildSlice t 4 #[(0,x0),(1,x1),(2,x2),(3,x3)],ty,pos,after,g⟩ T S [(x0,v0),(x1,v1),(x2,v2),(x3,v3)] [] (.lst false te sz l') []:=⟨hz.h▸Eq (ps:=[(0,x0,v0),(1,x1,v1),(2,x2,v2),(3,x3,v3)]) TEl.h TZe.h TSize.h hzs hag hn hpos hf,(.cons h0 (.cons h1 (.cons h2 (.cons h3 .nil)))),.nil⟩
theorem litF5[TEl P t te][TZe P te zl][TSize P te sz][TAg P te ag](h0:Rd c T x0 v0)(h1:Rd c T x1 v1)(h2:Rd c T x2 v2)(h3:Rd c T x3 v3)(h4:Rd c T x4 v4)(hzs:zl.length=sz)(hag:ag=true\/zl.length=1)(hn:5*sz<=16777216)(hpos:0<5*sz)(hf:Eo sz (List.replicate 5 (zAV zl ag)) [(0,v0),(1,v1),(2,v2),(3,v3),(4,v4)]=some [v0,v1,v2,v3,v4])[hz:Frzs [v0,v1,v2,v3,v4] l']:Stp c P ⟨dst,.buildSlice t 5 #[(0,x0),(1,x1),(2,x2),(3,x3),(4,x4)],ty,pos,after,g⟩ T S [(x0,v0),(x1,v1),(x2,v2),(x3,v3),(x4,v4)] [] (.lst false te sz l') []:=⟨hz.h▸Eq (ps:=[(0,x0,v0),(1,x1,v1),(2,x2,v2),(3,x3,v3),(4,x4,v4)]) TEl.h TZe.h TSize.h hzs hag hn hpos hf,(.cons h0 (.cons h1 (.cons h2 (.cons h3 (.cons h4 .nil))))),.nil⟩
theorem litF6{v5:AV}[TEl P t te][TZe P te zl][TSize P te sz][TAg P te ag](h0:Rd c T x0 v0)(h1:Rd c T x1 v1)(h2:Rd c T x2 v2)(h3:Rd c T x3 v3)(h4:Rd c T x4 v4)(h5:Rd c T x5 v5)(hzs:zl.length=sz)(hag:ag=true\/zl.length=1)(hn:6*sz<=16777216)(hpos:0<6*sz)(hf:Eo sz (List.replicate 6 (zAV zl ag)) [(0,v0),(1,v1),(2,v2),(3,v3),(4,v4),(5,v5)]=some [v0,v1,v2,v3,v4,v5])[hz:Frzs [v0,v1,v2,v3,v4,v5] l']:Stp c P ⟨dst,.buildSlice t 6 #[(0,x0),(1,x1),(2,x2),(3,x3),(4,x4),(5,x5)],ty,pos,after,g⟩ T S [(x0,v0),(x1,v1),(x2,v2),(x3,v3),(x4,v4),(x5,v5)] [] (.lst false te sz l') []:=⟨hz.h▸Eq (ps:=[(0,x0,v0),(1,x1,v1),(2,x2,v2),(3,x3,v3),(4,x4,v4),(5,x5,v5)]) TEl.h TZe.h TSize.h hzs hag hn hpos hf,(.cons h0 (.cons h1 (.cons h2 (.cons h3 (.cons h4 (.cons h5 .nil)))))),.nil⟩
theorem litF7{v5:AV}{x6:Operand}{v6:AV}[TEl P t te][TZe P te zl][TSize P te sz][TAg P te ag](h0:Rd c T x0 v0)(h1:Rd c T x1 v1)(h2:Rd c T x2 v2)(h3:Rd c T x3 v3)(h4:Rd c T x4 v4)(h5:Rd c T x5 v5)(h6:Rd c T x6 v6)(hzs:zl.length=sz)(hag:ag=true\/zl.length=1)(hn:7*sz<=16777216)(hpos:0<7*sz)(hf:Eo sz (List.replicate 7 (zAV zl ag)) [(0,v0),(1,v1),(2,v2),(3,v3),(4,v4),(5,v5),(6,v6)]=some [v0,v1,v2,v3,v4,v5,v6])[hz:Frzs [v0,v1,v2,v3,v4,v5,v6] l']:Stp c P ⟨dst,.buildSlice t 7 #[(0,x0),(1,x1),(2,x2),(3,x3),(4,x4),(5,x5),(6,x6)],ty,pos,after,g⟩ T S [(x0,v0),(x1,v1),(x2,v2),(x3,v3),(x4,v4),(x5,v5),(x6,v6)] [] (.lst false te sz l') []:=⟨hz.h▸Eq (ps:=[(0,x0,v0),(1,x1,v1),(2,x2,v2),(3,x3,v3),(4,x4,v4),(5,x5,v5),(6,x6,v6)]) TEl.h TZe.h TSize.h hzs hag hn hpos hf,(.cons h0 (.cons h1 (.cons h2 (.cons h3 (.cons h4 (.cons h5 (.cons h6 .nil))))))),.nil⟩
theorem litF8{v5:AV}{x6:Operand}{v6:AV}{x7:Operand}{v7:AV}[TEl P t te][TZe P te zl][TSize P te sz][TAg P te ag](h0:Rd c T x0 v0)(h1:Rd c T x1 v1)(h2:Rd c T x2 v2)(h3:Rd c T x3 v3)(h4:Rd c T x4 v4)(h5:Rd c T x5 v5)(h6:Rd c T x6 v6)(h7:Rd c T x7 v7)(hzs:zl.length=sz)(hag:ag=true\/zl.length=1)(hn:8*sz<=16777216)(hpos:0<8*sz)(hf:Eo sz (List.replicate 8 (zAV zl ag)) [(0,v0),(1,v1),(2,v2),(3,v3),(4,v4),(5,v5),(6,v6),(7,v7)]=some [v0,v1,v2,v3,v4,v5,v6,v7])[hz:Frzs [v0,v1,v2,v3,v4,v5,v6,v7] l']:Stp c P ⟨dst,.buildSlice t 8 #[(0,x0),(1,x1),(2,x2),(3,x3),(4,x4),(5,x5),(6,x6),(7,x7)],ty,pos,after,g⟩ T S [(x0,v0),(x1,v1),(x2,v2),(x3,v3),(x4,v4),(x5,v5),(x6,v6),(x7,v7)] [] (.lst false te sz l') []:=⟨hz.h▸Eq (ps:=[(0,x0,v0),(1,x1,v1),(2,x2,v2),(3,x3,v3),(4,x4,v4),(5,x5,v5),(6,x6,v6),(7,x7,v7)]) TEl.h TZe.h TSize.h hzs hag hn hpos hf,(.cons h0 (.cons h1 (.cons h2 (.cons h3 (.cons h4 (.cons h5 (.cons h6 (.cons h7 .nil)))))))),.nil⟩
end W
end
section
variable {ro:Option Nat}
open Go.RowKit
section
variable {P:Program}{nt:Nat}{m0 m:Mem}{X p:Nat}{t:TypeId}{sz:Nat}{e:AV}
theorem St.iceP{st:St}(ds:List Nat)(hd:∀d∈ds,BR st.T d=some (.ptr X 0 0))(hS:At st.S p (X,.row t sz [e])):Fu nt st λst'=>st'=⟨ds.map (λd=>(d,.fp e.frz.cells))++st.T,st.S.set p (X,.used)⟩:=by
 rintro m0 a w ⟨m,N,Z,rfl,h2,h3,h4⟩;obtain⟨bs,hz⟩:=hS.z h2;obtain⟨R,hp1,hp2⟩:=DC hz;obtain⟨m',hw,G',hle,_,hv⟩:=(h3.perm hp1).iced;refine⟨_,⟨m',N,Z.set p ((X,.used),[]),hw,by rw[A8,h2],G'.perm (hp2 _).symm,h4.1,h4.2.1.mono hle,?_⟩,rfl⟩;have hT:∀d v,BR st.T d=some v->∃u,a.tmps[d]?=some u/\VV m v u []:=h4.2.2;clear h4
 induction ds with
 |nil=>exact λd v h=>let ⟨u,h5,h6⟩:=hT d v h;⟨u,h5,h6.mono hle (by simp)⟩
 |cons d ds ih=>
  intro d' v h;simp only[AR,G6]at h;rw[Bx]at h;split at h
  ·rename_i e';subst e'
   injection h with h;subst h
   obtain⟨u,h5,h6⟩:=hT _ _ (hd d' (by simp));exact⟨u,h5,hv e [u] rfl h6⟩
  ·exact ih (λd hd'=>hd d (by simp[hd'])) d' v h
theorem I6(ds:List Nat)(hS:At S p (X,.row t sz [e])){b:AV}[hf:Frz e b](k:AWP ro P nt c Q ⟨ds.map (λd=>(d,.fp b.cells))++T,S.set p (X,.used)⟩)(hd:∀d∈ds,BR T d=some (.ptr X 0 0)):AWP ro P nt c Q ⟨T,S⟩:=
 .ghost (St.iceP (st:=⟨T,S⟩) ds hd hS) λst' e=>by subst e;rw[hf.h];exact k
end
section
variable {P:Program}{dst:Option Tmp}{ty t:TypeId}{pos:String}{after:Array Edge}{g:Option (Nat×Bool)}{x:Operand}{v:AV}
theorem OpT.boxF(hs:v.stor=true):OpT P ⟨dst,.box t x,ty,pos,after,g⟩ [(x,v)] [] (.fp v.frz.cells) []:=by
 intro nt m0 T S a w hx hS hd hr;obtain⟨_,hr',X,rfl⟩:=St.reserve (nt:=nt) ⟨T,S⟩ m0 a w hr;refine Tg (λa' w' h=>?_) (OpT.box (dst:=dst) (ty:=ty) (t:=t) (pos:=pos) (after:=after) (g:=g) (X:=X) (p:=0) hs nt m0 T ((X,.gone)::S) a w hx (by simp) hd hr');cases dst with
 |none=>exact Rel.sub h (.cons _ (.refl _))
 |some d=>
  obtain⟨_,h2,rfl⟩:=St.iceP (nt:=nt) (st:=⟨A6 T (some d) (.ptr X 0 0),A5 ((X,.gone)::S) [(0,(X,.row t v.width [v]))]⟩) (p:=0) (X:=X) (t:=t) (sz:=v.width) (e:=v) [d] (by simp[A6,Bx]) .here m0 a' w' h;refine Rel.sub (Jd h2 λe v he=>?_) (.cons _ (.refl _));simp only[A6,Bx,AR,Bj,G6,EN]at he⊢;by_cases e':e=d
  ·simpa[e']using he
  ·simpa[e']using he
theorem KP{w:World}{args:Array Operand}{f:FuncId}{vs:Array Value}{K:Act->World->Prop}(ha:a.eval x= .func (.func f) #[] vs)(hf:MD P f=true)
  (h:Calls P f (args.map a.eval++vs) w λe w'=>∃v,e= .returned v/\K (a.put dst v) w'):Oper.wp P ⟨dst,.call ⟨.value x,args,ats⟩,ty,pos,after,g⟩ a w K (λ_ _ _=>False):=by
 unfold MD at hf
 have hrun:(execOp a.eval ⟨dst,.call ⟨.value x,args,ats⟩,ty,pos,after,g⟩).run P w= .ok (.enter f (args.map a.eval++vs)) w:=by
  split at hf
  ·rename_i fn hfn
   simp only[AE,Du]at hf
   have hb:fn.body.isNone=false:=by
    cases hfb:fn.body with
    |none=>rw[hfb]at hf;simp at hf
    |some c=>rfl
   have h1:¬fn.name= "runtime.NumGoroutine" :=by simpa using hf.1
   have h2:¬fn.body=none:=by intro h;rw[h]at hb;cases hb
   simp[execOp,resolve,ha,Deferred.ofValue,invoke,callFunc,program,AI,Sem.run,AA,hfn,h1,h2]
  ·cases hf
 unfold Oper.wp;rw[hrun];simp only[Oper.upon];refine h.mono λe w' ⟨v,he,hk⟩=>?_
 subst he;exact hk
theorem Ig{m:Mem}:∀{cap:List AV} {us:List Value},DG cap=true->VCs m cap us []->VTs m cap us []
 |[],us,_,h=>⟨h.1,rfl⟩
 |c::cap,us,hs,h=>by
  simp only[DG,AE]at hs;obtain⟨c1,c2,b1,b2,rfl,e,h1,h2⟩:=h;obtain⟨rfl,rfl⟩:b1=[]/\b2=[]:=by simpa using e.symm
  have hl:=VC.len _ h1;have hw:c.width=1:=by cases c<;>first|rfl|(simp[AV.st1]at hs)
  rw[hw]at hl;obtain⟨u,rfl⟩:=KM.1 hl;have hn:ntup c=true:=by cases c<;>first|rfl|(simp[AV.st1]at hs)
  have hv:VV m c u []:=by cases c<;>first|exact h1|(simp[AV.st1]at hs)
  exact(B8 hn).2 ⟨u,c2,[],[],rfl,rfl,hv,Ig hs.2 h2⟩
theorem KE{m:Mem}:∀{l k:List AV} {us vs:List Value},VTs m l us []->VTs m k vs []->VTs m (l++k) (us++vs) []
 |[],k,us,vs,h,h'=>by obtain⟨rfl,_⟩:=h;exact h'
 |a::l,k,us,vs,h,h'=>by
  have ha:=h.ntup;obtain⟨u,us',b1,b2,rfl,e,h1,h2⟩:=(B8 ha).1 h;obtain⟨rfl,rfl⟩:b1=[]/\b2=[]:=by simpa using e.symm
  exact(B8 ha).2 ⟨u,us'++vs,[],[],rfl,rfl,h1,KE h2 h'⟩
variable {xs:List (Operand×AV)}{f:FuncId}{cap:List AV}{ats:Array TypeId}{r:AV}
theorem NA(h:PS P f (xs.map (·.2)++cap) r)(hs:DG cap=true)(ht:BT xs=true):OpT P ⟨dst,.call ⟨.value x,(xs.map (·.1)).toArray,ats⟩,ty,pos,after,g⟩ ((x,.fn f cap)::xs) [] r.frz []:=by
 intro nt m0 T S a w hx hS hd hr;obtain⟨m,N,Z,rfl,h2,h3,h4⟩:=hr;obtain⟨vs,e1,h5⟩:=h4.ev (hx (x,.fn f cap) (by simp));injection e1 with e1
 refine KP e1 h.fn ?_
 refine(h.run S m N Z _ h2 h3.self (by
  have:=KE (FK (DU ht) λq hq=>h4.ev (hx q (by simp[hq]))) (Ig hs h5);simpa[Cp]using this)).mono ?_
 rintro e w' ⟨v,r',S',m',N',Z',br,rfl,rfl,hm,G',hv,rfl,rfl⟩;obtain⟨G2,hle⟩:=Good.freeze (ex:=br) (ex':=[]) (by simpa using h3.after G') _ rfl;exact⟨v,rfl,{m' with F:=λb=>m'.F b\/b∈br},N',Z',rfl,hm,G2,((h4.mono G'.le).mono hle).put hd (VV.frz hle (λb hb=>⟨.inr hb,rfl⟩) hv)⟩
variable {X p:Nat}{o o':AO}
end
namespace W
variable {P:Program}{dst:Option Tmp}{ty t:TypeId}{pos:String}{after:Array Edge}{g:Option (Nat×Bool)}{T:List (Nat×AV)}{S:List AK}{c:Option (List Bool)}{x:Operand}{v r r':AV}{f:FuncId}{cap:List AV}{ats:Array TypeId}{X p:Nat}{o o':AO}
theorem boxF(hx:Rd c T x v)(hs:v.stor=true){b:AV}[hf:Frz v b]:Stp c P ⟨dst,.box t x,ty,pos,after,g⟩ T S [(x,v)] [] (.fp b.cells) []:=⟨hf.h▸OpT.boxF hs,.cons hx .nil,.nil⟩
theorem func0:Stp c P ⟨dst,.makeFunc (.func f) #[] #[],ty,pos,after,g⟩ T S [] [] (.fn f []) []:=⟨.makeFunc (xs:=[]) rfl,.nil,.nil⟩
theorem callC1(hx:Rd c T x (.fn f cap))(h0:Rd c T x0 v0)(h:PS P f (v0::cap) r)(hs:DG cap=true)(ht:BT [(x0,v0)]=true)(hf:r.frz=r'):Stp c P ⟨dst,.call ⟨.value x,#[x0],ats⟩,ty,pos,after,g⟩ T S [(x,.fn f cap),(x0,v0)] [] r' []:=⟨hf▸NA (xs:=[(x0,v0)]) h hs ht,(.cons hx (.cons h0 .nil)),.nil⟩
theorem callC2(hx:Rd c T x (.fn f cap))(h0:Rd c T x0 v0)(h1:Rd c T x1 v1)(h:PS P f (v0::v1::cap) r)(hs:DG cap=true)(ht:BT [(x0,v0),(x1,v1)]=true)(hf:r.frz=r'):Stp c P ⟨dst,.call ⟨.value x,#[x0,x1],ats⟩,ty,pos,after,g⟩ T S [(x,.fn f cap),(x0,v0),(x1,v1)] [] r' []:=⟨hf▸NA (xs:=[(x0,v0),(x1,v1)]) h hs ht,(.cons hx (.cons h0 (.cons h1 .nil))),.nil⟩
end W
end
section
variable {ro:Option Nat}
inductive Grd(ops:Array Oper)(T:List (Nat×AV)):Option (Nat×Bool)->List Nat->Prop
 |none:Grd ops T .none []
 |met {g t:Nat} {b b':Bool} (ht:(ops[g]?).bind (·.dst)=some t) (hv:BR T t=some (.prim (.bool b'))) (hb:b'=b):Grd ops T (some (g,b)) [t]
section
variable {P:Program}{nt:Nat}{ops:Array Oper}{Q:Exit->St->Prop}{l rest:List Oper}{acc:List Eff}{st:St}{T:List (Nat×AV)}{S:List AK}{xs:List (Operand×AV)}{rS wS:List (Nat×AK)}{v:AV}{op:Op}{ty:TypeId}{pos:String}{after:Array Edge}{dst:Option Tmp}{g:Option (Nat×Bool)}{ts:List Nat}
theorem Stp.ung{g':Option (Nat×Bool)}{c:Option (List Bool)}(h:Stp c P ⟨dst,op,ty,pos,after,g⟩ T S xs rS v wS):Stp c P ⟨dst,op,ty,pos,after,g'⟩ T S xs rS v wS:=⟨h.op,h.rd,h.get⟩
theorem HT(h:Stp none P ⟨dst,op,ty,pos,after,g⟩ T S xs rS v wS)(hd:Ao dst nt=true)(hg:Grd ops T g ts)(k:RGo P nt ops l Q rest (acc++[⟨⟨dst,op,ty,pos,after,g⟩,ts++BZ xs,rS.map (·.1),v,wS⟩]) ⟨A6 T dst v,A5 S wS⟩):RGo P nt ops l Q (⟨dst,op,ty,pos,after,g⟩::rest) acc ⟨T,S⟩:=by
 cases hg with
 |none=>exact RGo.s h hd k
 |met ht hv hb=>exact Vi ht hv hb h.ung hd k
theorem Ln(h:Stp none P ⟨dst,op,ty,pos,after,g⟩ T S xs rS v [])(hd:Ao dst nt=true)(hg:Grd ops T g ts)(k:RGo P nt ops l Q rest (acc++[⟨⟨dst,op,ty,pos,after,g⟩,ts++BZ xs,rS.map (·.1),v,[]⟩]) ⟨A6 T dst v,S⟩):RGo P nt ops l Q (⟨dst,op,ty,pos,after,g⟩::rest) acc ⟨T,S⟩:=HT h hd hg k
end
namespace W
variable {P:Program}{dst:Option Tmp}{ty:TypeId}{pos:String}{after:Array Edge}{g:Option (Nat×Bool)}{T:List (Nat×AV)}{S:List AK}{c:Option (List Bool)}{x y z:Operand}{v w:AV}
theorem pickB{b p q:Bool}(hx:Rd c T x (.prim (.bool b)))(hy:Rd c T y (.prim (.bool p)))(hz:Rd c T z (.prim (.bool q))):Stp c P ⟨dst,.pick x y z,ty,pos,after,g⟩ T S [(x,.prim (.bool b)),(y,.prim (.bool p)),(z,.prim (.bool q))] [] (.prim (.bool (cond b p q))) []:=by
 cases b<;>exact pick hx hy hz
theorem pickT{va vb:AV}(hx:Rd c T x (.prim (.bool b)))(hy:Rd c T y va)(hb:b=true)(hz:Rd c T z vb:=by rfl):Stp c P ⟨dst,.pick x y z,ty,pos,after,g⟩ T S [(x,.prim (.bool b)),(y,va),(z,vb)] [] va []:=by
 subst hb;exact pick hx hy hz
theorem pickF{va vb:AV}(hx:Rd c T x (.prim (.bool b)))(hz:Rd c T z vb)(hb:b=false)(hy:Rd c T y va:=by rfl):Stp c P ⟨dst,.pick x y z,ty,pos,after,g⟩ T S [(x,.prim (.bool b)),(y,va),(z,vb)] [] vb []:=by
 subst hb;exact pick hx hy hz
end W
theorem AOps.sub{P:Program}{T:List (Nat×AV)}{S S':List AK}(hS:S'.Sublist S)(h:AOps ro P nt ops Q rest ⟨T,S'⟩):AOps ro P nt ops Q rest ⟨T,S⟩:=λm0 a w hr=>h m0 a w (hr.sub hS)
section
variable {P:Program}{ty t t2:TypeId}{pos:String}{after:Array Edge}{dst:Option Tmp}{g:Option (Nat×Bool)}{x y z:Operand}{f n:Nat}{ar:Array (Nat×Operand)}{c:Option (List Bool)}{T:List (Nat×AV)}{S:List AK}{xs:List (Operand×AV)}{rS wS:List (Nat×AK)}{v:AV}
theorem Lg(k:Stp c P ⟨dst,.move x,ty,pos,after,g⟩ T S xs rS v wS):Stp c P ⟨dst,.move x,ty,pos,after,g⟩ T S xs rS v wS:=k
theorem I0(k:Stp c P ⟨dst,.assign x,ty,pos,after,g⟩ T S xs rS v wS):Stp c P ⟨dst,.assign x,ty,pos,after,g⟩ T S xs rS v wS:=k
theorem Lh(k:Stp c P ⟨dst,.load t x,ty,pos,after,g⟩ T S xs rS v wS):Stp c P ⟨dst,.load t x,ty,pos,after,g⟩ T S xs rS v wS:=k
theorem O4(k:Stp c P ⟨dst,.store t x y,ty,pos,after,g⟩ T S xs rS v wS):Stp c P ⟨dst,.store t x y,ty,pos,after,g⟩ T S xs rS v wS:=k
theorem Gy(k:Stp c P ⟨dst,.fieldAddr t x f,ty,pos,after,g⟩ T S xs rS v wS):Stp c P ⟨dst,.fieldAddr t x f,ty,pos,after,g⟩ T S xs rS v wS:=k
theorem Js(k:Stp c P ⟨dst,.field t x f,ty,pos,after,g⟩ T S xs rS v wS):Stp c P ⟨dst,.field t x f,ty,pos,after,g⟩ T S xs rS v wS:=k
theorem Gx(k:Stp c P ⟨dst,.indexAddr t x y,ty,pos,after,g⟩ T S xs rS v wS):Stp c P ⟨dst,.indexAddr t x y,ty,pos,after,g⟩ T S xs rS v wS:=k
theorem Jr(k:Stp c P ⟨dst,.index t x y,ty,pos,after,g⟩ T S xs rS v wS):Stp c P ⟨dst,.index t x y,ty,pos,after,g⟩ T S xs rS v wS:=k
theorem GB(k:Stp c P ⟨dst,.alloc t,ty,pos,after,g⟩ T S xs rS v wS):Stp c P ⟨dst,.alloc t,ty,pos,after,g⟩ T S xs rS v wS:=k
theorem Stp.g_box(k:Stp c P ⟨dst,.box t x,ty,pos,after,g⟩ T S xs rS v wS):Stp c P ⟨dst,.box t x,ty,pos,after,g⟩ T S xs rS v wS:=k
theorem M8{bo:BinOp}(k:Stp c P ⟨dst,.binOp bo t x y t2,ty,pos,after,g⟩ T S xs rS v wS):Stp c P ⟨dst,.binOp bo t x y t2,ty,pos,after,g⟩ T S xs rS v wS:=k
theorem O3{uo:UnOp}(k:Stp c P ⟨dst,.unOp uo t x,ty,pos,after,g⟩ T S xs rS v wS):Stp c P ⟨dst,.unOp uo t x,ty,pos,after,g⟩ T S xs rS v wS:=k
theorem Li{ci}(k:Stp c P ⟨dst,.call ci,ty,pos,after,g⟩ T S xs rS v wS):Stp c P ⟨dst,.call ci,ty,pos,after,g⟩ T S xs rS v wS:=k
theorem Lf(k:Stp c P ⟨dst,.pick x y z,ty,pos,after,g⟩ T S xs rS v wS):Stp c P ⟨dst,.pick x y z,ty,pos,after,g⟩ T S xs rS v wS:=k
theorem H9(k:Stp c P ⟨dst,.extract x n,ty,pos,after,g⟩ T S xs rS v wS):Stp c P ⟨dst,.extract x n,ty,pos,after,g⟩ T S xs rS v wS:=k
theorem Jt(k:Stp c P ⟨dst,.build t ar,ty,pos,after,g⟩ T S xs rS v wS):Stp c P ⟨dst,.build t ar,ty,pos,after,g⟩ T S xs rS v wS:=k
theorem GU(k:Stp c P ⟨dst,.buildSlice t n ar,ty,pos,after,g⟩ T S xs rS v wS):Stp c P ⟨dst,.buildSlice t n ar,ty,pos,after,g⟩ T S xs rS v wS:=k
theorem HR(k:Stp c P ⟨dst,.nilCheck x,ty,pos,after,g⟩ T S xs rS v wS):Stp c P ⟨dst,.nilCheck x,ty,pos,after,g⟩ T S xs rS v wS:=k
theorem HS{fu:Fn}{fi ca:Array Operand}(k:Stp c P ⟨dst,.makeFunc fu fi ca,ty,pos,after,g⟩ T S xs rS v wS):Stp c P ⟨dst,.makeFunc fu fi ca,ty,pos,after,g⟩ T S xs rS v wS:=k
end
theorem Rd.qa{T:List (Nat×AV)}{x:Operand}{w v:AV}(h:ev T x=some w:=by rfl)(k:Strips cs w v:=by first|with_reducible exact .a1|with_reducible exact .b12|with_reducible exact .b1|with_reducible exact .b2|with_reducible exact .refl|exact .refl|exact .step (by simp) .refl|exact .step (by simp) (.step (by simp) .refl)|exact .step (by simp) (.step (by simp) (.step (by simp) .refl))):Rd (some cs) T x v:=.q h k
theorem AY{S:List AK}{p:Nat}{e:AK}(h:At S p e:=by(repeat (first|exact .here|apply At.next))):At S p e:=h
theorem EL{T T':List (Nat×AV)}(h:Looks T T':=by(repeat (first|exact .nil|refine .cons (by first|rfl|assumption) ?_))):Looks T T':=h
theorem Av{S S':List AK}(h:S'.Sublist S:=by(repeat (first|exact Dt _|exact List.Sublist.slnil|apply List.Sublist.cons_cons|apply JG))):S'.Sublist S:=h
section
variable {P:Program}{ty:TypeId}{pos:String}{after:Array Edge}{dst:Option Tmp}{g:Option (Nat×Bool)}{op:Op}{c:Option (List Bool)}{T:List (Nat×AV)}{S:List AK}{xs:List (Operand×AV)}{rS wS:List (Nat×AK)}{v:AV}
theorem Jc(h:Stp c P ⟨dst,op,ty,pos,after,g⟩ T S xs rS v wS:=by(first
   |(apply Lg;first|exact W.move rfl)
   |(apply I0;first|exact W.assign rfl)
   |(apply Lh;first|exact W.loadFW rfl (by exact rfl)|exact W.loadW rfl (by exact AY) (by first|exact rfl|assumption|exact Cb _ (by first|assumption|omega)|exact Cb _ (by(try simp);omega)) (by exact rfl)|exact W.loadF rfl (by exact rfl)|exact W.load rfl (by exact AY) (by first|exact rfl|assumption|exact Cb _ (by first|assumption|omega)|exact Cb _ (by(try simp);omega)) (by exact rfl))
   |(apply Gy;first|exact W.fieldF rfl (by exact rfl)|exact W.fieldA rfl (by exact AY) (by first|exact Es|assumption|decide|omega|((try simp);omega)|(simp;done)))
   |(apply Js;first|exact W.field rfl (by exact rfl))
   |(apply M8;first|exact W.lss rfl rfl|exact W.leq rfl rfl|exact W.gtr rfl rfl|exact W.geq rfl rfl|exact W.eqI rfl rfl|exact W.neI rfl rfl|exact W.eqS rfl rfl|exact W.neS rfl rfl|exact W.add rfl rfl ⟨by omega,by omega⟩|exact W.sub rfl rfl ⟨by omega,by omega⟩)
   |(apply O3;first|exact W.not rfl)
   |(apply Gx;first|exact W.idxL rfl rfl rfl (by first|exact rfl|assumption|exact Cb _ (by first|assumption|omega)|exact Cb _ (by(try simp);omega))|exact W.idx rfl rfl (by exact AY) rfl (by first|exact Es|assumption|decide|omega|((try simp);omega)|(simp;done)) (Af _))
   |(apply Jr;first|exact W.idxStr rfl rfl rfl (by assumption))
   |(apply Li;first|exact W.lenL rfl|exact W.lenS rfl|exact W.lenN rfl|exact W.lenStr rfl|exact W.min2 rfl rfl|exact W.max2 rfl rfl)
   |(apply HR;first|exact W.nilF rfl|exact W.nilA rfl (by exact AY) (by first|exact Es|assumption|decide|omega|((try simp);omega)|(simp;done)))
   |(apply H9;first|exact W.extract rfl rfl)
   |(apply Jt;first|exact W.build0 (by first|exact C4 (by dsimp only[EW,F4,GO,over,AV.cells,List.map];try exact rfl) (by exact rfl)|exact rfl)|exact W.build1 rfl (by first|exact C4 (by dsimp only[EW,F4,GO,over,AV.cells,List.map];try exact rfl) (by exact rfl)|exact rfl)|exact W.build2 rfl rfl (by first|exact C4 (by dsimp only[EW,F4,GO,over,AV.cells,List.map];try exact rfl) (by exact rfl)|exact rfl)|exact W.build3 rfl rfl rfl (by first|exact C4 (by dsimp only[EW,F4,GO,over,AV.cells,List.map];try exact rfl) (by exact rfl)|exact rfl)|exact W.build4 rfl rfl rfl rfl (by first|exact C4 (by dsimp only[EW,F4,GO,over,AV.cells,List.map];try exact rfl) (by exact rfl)|exact rfl)|exact W.build5 rfl rfl rfl rfl rfl (by first|exact C4 (by dsimp only[EW,F4,GO,over,AV.cells,List.map];try exact rfl) (by exact rfl)|exact rfl)|exact W.build6 rfl rfl rfl rfl rfl rfl (by first|exact C4 (by dsimp only[EW,F4,GO,over,AV.cells,List.map];try exact rfl) (by exact rfl)|exact rfl)|exact W.build7 rfl rfl rfl rfl rfl rfl rfl (by first|exact C4 (by dsimp only[EW,F4,GO,over,AV.cells,List.map];try exact rfl) (by exact rfl)|exact rfl)|exact W.build8 rfl rfl rfl rfl rfl rfl rfl rfl (by first|exact C4 (by dsimp only[EW,F4,GO,over,AV.cells,List.map];try exact rfl) (by exact rfl)|exact rfl))
   |(apply GU;first|exact W.litF0 (by exact rfl) (by first|exact .inl rfl|exact .inr rfl) (by decide) (by decide) (by exact rfl)|exact W.litF1 rfl (by exact rfl) (by first|exact .inl rfl|exact .inr rfl) (by decide) (by decide) (by exact rfl)|exact W.litF2 rfl rfl (by exact rfl) (by first|exact .inl rfl|exact .inr rfl) (by decide) (by decide) (by exact rfl)|exact W.litF3 rfl rfl rfl (by exact rfl) (by first|exact .inl rfl|exact .inr rfl) (by decide) (by decide) (by exact rfl)|exact W.litF4 rfl rfl rfl rfl (by exact rfl) (by first|exact .inl rfl|exact .inr rfl) (by decide) (by decide) (by exact rfl)|exact W.litF5 rfl rfl rfl rfl rfl (by exact rfl) (by first|exact .inl rfl|exact .inr rfl) (by decide) (by decide) (by exact rfl)|exact W.litF6 rfl rfl rfl rfl rfl rfl (by exact rfl) (by first|exact .inl rfl|exact .inr rfl) (by decide) (by decide) (by exact rfl)|exact W.litF7 rfl rfl rfl rfl rfl rfl rfl (by exact rfl) (by first|exact .inl rfl|exact .inr rfl) (by decide) (by decide) (by exact rfl)|exact W.litF8 rfl rfl rfl rfl rfl rfl rfl rfl (by exact rfl) (by first|exact .inl rfl|exact .inr rfl) (by decide) (by decide) (by exact rfl))
   |(apply HS;first|exact W.func0|exact W.func1 rfl rfl|exact W.func2 rfl rfl rfl|exact W.func3 rfl rfl rfl rfl|exact W.func4 rfl rfl rfl rfl rfl|exact W.func5 rfl rfl rfl rfl rfl rfl|exact W.func6 rfl rfl rfl rfl rfl rfl rfl|exact W.func7 rfl rfl rfl rfl rfl rfl rfl rfl)
   |(apply Lf;first|exact W.pickF rfl rfl (by first|rfl|assumption)|exact W.pickT rfl rfl (by first|rfl|assumption)|exact W.orQ rfl rfl rfl|exact W.andQ rfl rfl rfl|exact W.pickB rfl rfl rfl|exact W.pickP rfl rfl rfl))):Stp c P ⟨dst,op,ty,pos,after,g⟩ T S xs rS v wS:=h
theorem FO(h:Stp c P ⟨dst,op,ty,pos,after,g⟩ T S xs rS v wS:=by(first
   |(apply Lg;first|exact W.move Rd.qa)
   |(apply I0;first|exact W.assign Rd.qa)
   |(apply Lh;first|exact W.loadFW Rd.qa (by exact rfl)|exact W.loadW Rd.qa (by exact AY) (by first|exact rfl|assumption|exact Cb _ (by first|assumption|omega)|exact Cb _ (by(try simp);omega)) (by exact rfl)|exact W.loadF Rd.qa (by exact rfl)|exact W.load Rd.qa (by exact AY) (by first|exact rfl|assumption|exact Cb _ (by first|assumption|omega)|exact Cb _ (by(try simp);omega)) (by exact rfl))
   |(apply Gy;first|exact W.fieldF Rd.qa (by exact rfl)|exact W.fieldA Rd.qa (by exact AY) (by first|exact Es|assumption|decide|omega|((try simp);omega)|(simp;done)))
   |(apply Js;first|exact W.field Rd.qa (by exact rfl))
   |(apply M8;first|exact W.lss Rd.qa Rd.qa|exact W.leq Rd.qa Rd.qa|exact W.gtr Rd.qa Rd.qa|exact W.geq Rd.qa Rd.qa|exact W.eqI Rd.qa Rd.qa|exact W.neI Rd.qa Rd.qa|exact W.eqS Rd.qa Rd.qa|exact W.neS Rd.qa Rd.qa|exact W.add Rd.qa Rd.qa ⟨by omega,by omega⟩|exact W.sub Rd.qa Rd.qa ⟨by omega,by omega⟩)
   |(apply O3;first|exact W.not Rd.qa)
   |(apply Gx;first|exact W.idxL Rd.qa Rd.qa rfl (by first|exact rfl|assumption|exact Cb _ (by first|assumption|omega)|exact Cb _ (by(try simp);omega))|exact W.idx Rd.qa Rd.qa (by exact AY) rfl (by first|exact Es|assumption|decide|omega|((try simp);omega)|(simp;done)) (Af _))
   |(apply Jr;first|exact W.idxStr Rd.qa Rd.qa rfl (by assumption))
   |(apply Li;first|exact W.lenL Rd.qa|exact W.lenS Rd.qa|exact W.lenN Rd.qa|exact W.lenStr Rd.qa|exact W.min2 Rd.qa Rd.qa|exact W.max2 Rd.qa Rd.qa)
   |(apply HR;first|exact W.nilF Rd.qa|exact W.nilA Rd.qa (by exact AY) (by first|exact Es|assumption|decide|omega|((try simp);omega)|(simp;done)))
   |(apply H9;first|exact W.extract Rd.qa rfl)
   |(apply Jt;first|exact W.build0 (by first|exact C4 (by dsimp only[EW,F4,GO,over,AV.cells,List.map];try exact rfl) (by exact rfl)|exact rfl)|exact W.build1 Rd.qa (by first|exact C4 (by dsimp only[EW,F4,GO,over,AV.cells,List.map];try exact rfl) (by exact rfl)|exact rfl)|exact W.build2 Rd.qa Rd.qa (by first|exact C4 (by dsimp only[EW,F4,GO,over,AV.cells,List.map];try exact rfl) (by exact rfl)|exact rfl)|exact W.build3 Rd.qa Rd.qa Rd.qa (by first|exact C4 (by dsimp only[EW,F4,GO,over,AV.cells,List.map];try exact rfl) (by exact rfl)|exact rfl)|exact W.build4 Rd.qa Rd.qa Rd.qa Rd.qa (by first|exact C4 (by dsimp only[EW,F4,GO,over,AV.cells,List.map];try exact rfl) (by exact rfl)|exact rfl)|exact W.build5 Rd.qa Rd.qa Rd.qa Rd.qa Rd.qa (by first|exact C4 (by dsimp only[EW,F4,GO,over,AV.cells,List.map];try exact rfl) (by exact rfl)|exact rfl)|exact W.build6 Rd.qa Rd.qa Rd.qa Rd.qa Rd.qa Rd.qa (by first|exact C4 (by dsimp only[EW,F4,GO,over,AV.cells,List.map];try exact rfl) (by exact rfl)|exact rfl)|exact W.build7 Rd.qa Rd.qa Rd.qa Rd.qa Rd.qa Rd.qa Rd.qa (by first|exact C4 (by dsimp only[EW,F4,GO,over,AV.cells,List.map];try exact rfl) (by exact rfl)|exact rfl)|exact W.build8 Rd.qa Rd.qa Rd.qa Rd.qa Rd.qa Rd.qa Rd.qa Rd.qa (by first|exact C4 (by dsimp only[EW,F4,GO,over,AV.cells,List.map];try exact rfl) (by exact rfl)|exact rfl))
   |(apply GU;first|exact W.litF0 (by exact rfl) (by first|exact .inl rfl|exact .inr rfl) (by decide) (by decide) (by exact rfl)|exact W.litF1 Rd.qa (by exact rfl) (by first|exact .inl rfl|exact .inr rfl) (by decide) (by decide) (by exact rfl)|exact W.litF2 Rd.qa Rd.qa (by exact rfl) (by first|exact .inl rfl|exact .inr rfl) (by decide) (by decide) (by exact rfl)|exact W.litF3 Rd.qa Rd.qa Rd.qa (by exact rfl) (by first|exact .inl rfl|exact .inr rfl) (by decide) (by decide) (by exact rfl)|exact W.litF4 Rd.qa Rd.qa Rd.qa Rd.qa (by exact rfl) (by first|exact .inl rfl|exact .inr rfl) (by decide) (by decide) (by exact rfl)|exact W.litF5 Rd.qa Rd.qa Rd.qa Rd.qa Rd.qa (by exact rfl) (by first|exact .inl rfl|exact .inr rfl) (by decide) (by decide) (by exact rfl)|exact W.litF6 Rd.qa Rd.qa Rd.qa Rd.qa Rd.qa Rd.qa (by exact rfl) (by first|exact .inl rfl|exact .inr rfl) (by decide) (by decide) (by exact rfl)|exact W.litF7 Rd.qa Rd.qa Rd.qa Rd.qa Rd.qa Rd.qa Rd.qa (by exact rfl) (by first|exact .inl rfl|exact .inr rfl) (by decide) (by decide) (by exact rfl)|exact W.litF8 Rd.qa Rd.qa Rd.qa Rd.qa Rd.qa Rd.qa Rd.qa Rd.qa (by exact rfl) (by first|exact .inl rfl|exact .inr rfl) (by decide) (by decide) (by exact rfl))
   |(apply HS;first|exact W.func0|exact W.func1 Rd.qa rfl|exact W.func2 Rd.qa Rd.qa rfl|exact W.func3 Rd.qa Rd.qa Rd.qa rfl|exact W.func4 Rd.qa Rd.qa Rd.qa Rd.qa rfl|exact W.func5 Rd.qa Rd.qa Rd.qa Rd.qa Rd.qa rfl|exact W.func6 Rd.qa Rd.qa Rd.qa Rd.qa Rd.qa Rd.qa rfl|exact W.func7 Rd.qa Rd.qa Rd.qa Rd.qa Rd.qa Rd.qa Rd.qa rfl)
   |(apply Lf;first|exact W.pickF Rd.qa Rd.qa (by first|rfl|assumption)|exact W.pickT Rd.qa Rd.qa (by first|rfl|assumption)|exact W.orQ Rd.qa Rd.qa Rd.qa|exact W.andQ Rd.qa Rd.qa Rd.qa|exact W.pickB Rd.qa Rd.qa Rd.qa|exact W.pickP Rd.qa Rd.qa Rd.qa))):Stp c P ⟨dst,op,ty,pos,after,g⟩ T S xs rS v wS:=h
theorem Lc(h:Stp c P ⟨dst,op,ty,pos,after,g⟩ T S xs rS v wS:=by(apply O4;exact W.storeN rfl rfl (by exact AY) (by first|exact rfl|assumption|exact Cb _ (by first|assumption|omega)|exact Cb _ (by(try simp);omega)) (by exact rfl) (by first|exact Tt (by(dsimp only[VK,F4,over,AV.cells,List.set]);try exact rfl) (by exact rfl)|exact rfl))):Stp c P ⟨dst,op,ty,pos,after,g⟩ T S xs rS v wS:=h
end
section
variable {P:Program}{nt:Nat}{ops:Array Oper}{Q:Exit->St->Prop}{rest:List Oper}{T:List (Nat×AV)}{S:List AK}{xs:List (Operand×AV)}{rS wS:List (Nat×AK)}{v:AV}{op:Op}{ty:TypeId}{pos:String}{after:Array Edge}{dst:Option Tmp}
theorem DZ(k:AOps ro P nt ops Q rest ⟨A6 T dst v,S⟩)(h:Stp none P ⟨dst,op,ty,pos,after,none⟩ T S xs rS v []:=by exact Jc)(hd:Ao dst nt=true:=by rfl):AOps ro P nt ops Q (⟨dst,op,ty,pos,after,none⟩::rest) ⟨T,S⟩:=AQ h hd k
theorem TX(k:AOps ro P nt ops Q rest ⟨A6 T dst v,A5 S wS⟩)(h:Stp none P ⟨dst,op,ty,pos,after,none⟩ T S xs rS v wS:=by exact Lc)(hd:Ao dst nt=true:=by rfl):AOps ro P nt ops Q (⟨dst,op,ty,pos,after,none⟩::rest) ⟨T,S⟩:=CM h hd k
theorem Rt{g:Nat}{b b':Bool}(k:AOps ro P nt ops Q rest ⟨A6 T dst (.opt (b'==b) v),S⟩)(ht:(ops[g]?).bind (·.dst)=some t:=by rfl)(hv:BR T t=some (.prim (.bool b')):=by rfl)(h:Stp (some [b'==b]) P ⟨dst,op,ty,pos,after,some (g,b)⟩ T S xs rS v []:=by exact FO)(hd:Ao dst nt=true:=by rfl)(hos:Da xs=true:=by exact rfl):AOps ro P nt ops Q (⟨dst,op,ty,pos,after,some (g,b)⟩::rest) ⟨T,S⟩:=TS h ht hv hd hos k
theorem Rs{c1:Bool}{g:Nat}{b b':Bool}(k:AOps ro P nt ops Q rest ⟨A6 T dst (.opt c1 (.opt (b'==b) v)),S⟩)(ht:(ops[g]?).bind (·.dst)=some t:=by rfl)(hv:BR T t=some (.opt c1 (.prim (.bool b'))):=by rfl)(h:Stp (some [c1,b'==b]) P ⟨dst,op,ty,pos,after,some (g,b)⟩ T S xs rS v []:=by exact FO)(hd:Ao dst nt=true:=by rfl)(hos:Da xs=true:=by exact rfl):AOps ro P nt ops Q (⟨dst,op,ty,pos,after,some (g,b)⟩::rest) ⟨T,S⟩:=TQ h ht hv hd hos k
theorem Rr{c1 c2:Bool}{g:Nat}{b b':Bool}(k:AOps ro P nt ops Q rest ⟨A6 T dst (.opt c1 (.opt c2 (.opt (b'==b) v))),S⟩)(ht:(ops[g]?).bind (·.dst)=some t:=by rfl)(hv:BR T t=some (.opt c1 (.opt c2 (.prim (.bool b')))):=by rfl)(h:Stp (some [c1,c2,b'==b]) P ⟨dst,op,ty,pos,after,some (g,b)⟩ T S xs rS v []:=by exact FO)(hd:Ao dst nt=true:=by rfl)(hos:Da xs=true:=by exact rfl):AOps ro P nt ops Q (⟨dst,op,ty,pos,after,some (g,b)⟩::rest) ⟨T,S⟩:=TP h ht hv hd hos k
theorem TY{g:Nat}{b b':Bool}(k:AOps ro P nt ops Q rest ⟨A6 T dst .dead,S⟩)(ht:(ops[g]?).bind (·.dst)=some t:=by rfl)(hv:BR T t=some (.prim (.bool b')):=by rfl)(hb:b'= !b:=by first|rfl|assumption|(simp only[HB,ED];assumption))(hd:Ao dst nt=true:=by rfl):AOps ro P nt ops Q (⟨dst,op,ty,pos,after,some (g,b)⟩::rest) ⟨T,S⟩:=Ut ht hv hb hd k
theorem BX{t:TypeId}{x:Operand}{b:AV}(k:AOps ro P nt ops Q rest ⟨A6 T dst (.fp b.cells),S⟩)(hx:Rd none T x v:=by rfl)(hs:v.stor=true:=by rfl)[hf:Frz v b](hd:Ao dst nt=true:=by rfl):AOps ro P nt ops Q (⟨dst,.box t x,ty,pos,after,none⟩::rest) ⟨T,S⟩:=AQ (W.boxF hx hs) hd k
theorem Qm{x:Operand}{f:FuncId}{r r':AV}(hx:Rd none T x (.fn f cap):=by rfl)(h0:Rd none T x0 v0:=by rfl)(h:PS P f (v0::cap) r)(k:AOps ro P nt ops Q rest ⟨A6 T dst r',S⟩)[hf:Frz r r'](hs:DG cap=true:=by first|rfl|assumption)(ht:BT [(x0,v0)]=true:=by rfl)(hd:Ao dst nt=true:=by rfl):AOps ro P nt ops Q (⟨dst,.call ⟨.value x,#[x0],ats⟩,ty,pos,after,none⟩::rest) ⟨T,S⟩:=AQ (W.callC1 hx h0 h hs ht hf.h) hd k
theorem GF{x:Operand}{f:FuncId}{r r':AV}(hx:Rd none T x (.fn f cap):=by rfl)(h0:Rd none T x0 v0:=by rfl)(h1:Rd none T x1 v1:=by rfl)(h:PS P f (v0::v1::cap) r)(k:AOps ro P nt ops Q rest ⟨A6 T dst r',S⟩)[hf:Frz r r'](hs:DG cap=true:=by first|rfl|assumption)(ht:BT [(x0,v0),(x1,v1)]=true:=by rfl)(hd:Ao dst nt=true:=by rfl):AOps ro P nt ops Q (⟨dst,.call ⟨.value x,#[x0,x1],ats⟩,ty,pos,after,none⟩::rest) ⟨T,S⟩:=AQ (W.callC2 hx h0 h1 h hs ht hf.h) hd k
theorem N0{f:FuncId}{r r':AV}(h:PS P f [] r)(k:AOps ro P nt ops Q rest ⟨A6 T dst r',S⟩)[hf:Frz r r'](ht:BT []=true:=by rfl)(hd:Ao dst nt=true:=by rfl):AOps ro P nt ops Q (⟨dst,.call ⟨.value (.func f),#[],ats⟩,ty,pos,after,none⟩::rest) ⟨T,S⟩:=AQ (W.callF0 h ht hf.h) hd k
theorem DQ{f:FuncId}{r r':AV}(h0:Rd none T x0 v0:=by rfl)(h:PS P f [v0] r)(k:AOps ro P nt ops Q rest ⟨A6 T dst r',S⟩)[hf:Frz r r'](ht:BT [(x0,v0)]=true:=by rfl)(hd:Ao dst nt=true:=by rfl):AOps ro P nt ops Q (⟨dst,.call ⟨.value (.func f),#[x0],ats⟩,ty,pos,after,none⟩::rest) ⟨T,S⟩:=AQ (W.callF1 h0 h ht hf.h) hd k
theorem Bw{f:FuncId}{r r':AV}(h0:Rd none T x0 v0:=by rfl)(h1:Rd none T x1 v1:=by rfl)(h:PS P f [v0,v1] r)(k:AOps ro P nt ops Q rest ⟨A6 T dst r',S⟩)[hf:Frz r r'](ht:BT [(x0,v0),(x1,v1)]=true:=by rfl)(hd:Ao dst nt=true:=by rfl):AOps ro P nt ops Q (⟨dst,.call ⟨.value (.func f),#[x0,x1],ats⟩,ty,pos,after,none⟩::rest) ⟨T,S⟩:=AQ (W.callF2 h0 h1 h ht hf.h) hd k
theorem Hv{f:FuncId}{r r':AV}(h0:Rd none T x0 v0:=by rfl)(h1:Rd none T x1 v1:=by rfl)(h2:Rd none T x2 v2:=by rfl)(h:PS P f [v0,v1,v2] r)(k:AOps ro P nt ops Q rest ⟨A6 T dst r',S⟩)[hf:Frz r r'](ht:BT [(x0,v0),(x1,v1),(x2,v2)]=true:=by rfl)(hd:Ao dst nt=true:=by rfl):AOps ro P nt ops Q (⟨dst,.call ⟨.value (.func f),#[x0,x1,x2],ats⟩,ty,pos,after,none⟩::rest) ⟨T,S⟩:=AQ (W.callF3 h0 h1 h2 h ht hf.h) hd k
theorem Uy{f:FuncId}{r r':AV}{X p:Nat}{o o':AO}(h0:Rd none T x0 v0:=by rfl)(h:PO P f [v0] X o r o')(k:AOps ro P nt ops Q rest ⟨A6 T dst r',A5 S [(p,(X,o'))]⟩)(hSp:At S p (X,o):=by exact AY)[hf:Frz r r'](ht:BT [(x0,v0)]=true:=by rfl)(hd:Ao dst nt=true:=by rfl):AOps ro P nt ops Q (⟨dst,.call ⟨.value (.func f),#[x0],ats⟩,ty,pos,after,none⟩::rest) ⟨T,S⟩:=CM (W.callO1 h0 hSp h ht hf.h) hd k
theorem GE{f:FuncId}{r r':AV}{X p:Nat}{o o':AO}(h0:Rd none T x0 v0:=by rfl)(h1:Rd none T x1 v1:=by rfl)(h:PO P f [v0,v1] X o r o')(k:AOps ro P nt ops Q rest ⟨A6 T dst r',A5 S [(p,(X,o'))]⟩)(hSp:At S p (X,o):=by exact AY)[hf:Frz r r'](ht:BT [(x0,v0),(x1,v1)]=true:=by rfl)(hd:Ao dst nt=true:=by rfl):AOps ro P nt ops Q (⟨dst,.call ⟨.value (.func f),#[x0,x1],ats⟩,ty,pos,after,none⟩::rest) ⟨T,S⟩:=CM (W.callO2 h0 h1 hSp h ht hf.h) hd k
theorem Gv{f:FuncId}{r r':AV}{X p:Nat}{o o':AO}(h0:Rd none T x0 v0:=by rfl)(h1:Rd none T x1 v1:=by rfl)(h2:Rd none T x2 v2:=by rfl)(h3:Rd none T x3 v3:=by rfl)(h:PO P f [v0,v1,v2,v3] X o r o')(k:AOps ro P nt ops Q rest ⟨A6 T dst r',A5 S [(p,(X,o'))]⟩)(hSp:At S p (X,o):=by exact AY)[hf:Frz r r'](ht:BT [(x0,v0),(x1,v1),(x2,v2),(x3,v3)]=true:=by rfl)(hd:Ao dst nt=true:=by rfl):AOps ro P nt ops Q (⟨dst,.call ⟨.value (.func f),#[x0,x1,x2,x3],ats⟩,ty,pos,after,none⟩::rest) ⟨T,S⟩:=CM (W.callO4 h0 h1 h2 h3 hSp h ht hf.h) hd k
theorem Hu{f:FuncId}{r r':AV}{X p:Nat}{o o':AO}(h0:Rd none T x0 v0:=by rfl)(h1:Rd none T x1 v1:=by rfl)(h2:Rd none T x2 v2:=by rfl)(h3:Rd none T x3 v3:=by rfl)(h4:Rd none T x4 v4:=by rfl)(h:PO P f [v0,v1,v2,v3,v4] X o r o')(k:AOps ro P nt ops Q rest ⟨A6 T dst r',A5 S [(p,(X,o'))]⟩)(hSp:At S p (X,o):=by exact AY)[hf:Frz r r'](ht:BT [(x0,v0),(x1,v1),(x2,v2),(x3,v3),(x4,v4)]=true:=by rfl)(hd:Ao dst nt=true:=by rfl):AOps ro P nt ops Q (⟨dst,.call ⟨.value (.func f),#[x0,x1,x2,x3,x4],ats⟩,ty,pos,after,none⟩::rest) ⟨T,S⟩:=CM (W.callO5 h0 h1 h2 h3 h4 hSp h ht hf.h) hd k
end
end
section
variable {ro:Option Nat}
section
variable {P:Program}{nt:Nat}{ops:Array Oper}{Q:Exit->St->Prop}{rest:List Oper}{T:List (Nat×AV)}{S:List AK}{xs:List (Operand×AV)}{rS wS:List (Nat×AK)}{v:AV}{op:Op}{ty:TypeId}{pos:String}{after:Array Edge}{dst:Option Tmp}{l:List Oper}{acc:List Eff}
theorem BQ(k:RGo P nt ops l Q rest (acc++[⟨⟨dst,op,ty,pos,after,g⟩,ts++BZ xs,rS.map (·.1),v,[]⟩]) ⟨A6 T dst v,S⟩)(h:Stp none P ⟨dst,op,ty,pos,after,g⟩ T S xs rS v []:=by exact Jc)(hd:Ao dst nt=true:=by rfl)(hg:Grd ops T g ts:=by first|exact .none|exact .met rfl rfl (by first|rfl|assumption)):RGo P nt ops l Q (⟨dst,op,ty,pos,after,g⟩::rest) acc ⟨T,S⟩:=Ln h hd hg k
theorem Ea(k:RGo P nt ops l Q rest (acc++[⟨⟨dst,op,ty,pos,after,g⟩,ts++BZ xs,rS.map (·.1),v,wS⟩]) ⟨A6 T dst v,A5 S wS⟩)(h:Stp none P ⟨dst,op,ty,pos,after,g⟩ T S xs rS v wS:=by exact Lc)(hd:Ao dst nt=true:=by rfl)(hg:Grd ops T g ts:=by first|exact .none|exact .met rfl rfl (by first|rfl|assumption)):RGo P nt ops l Q (⟨dst,op,ty,pos,after,g⟩::rest) acc ⟨T,S⟩:=HT h hd hg k
theorem TG{g:Nat}{b b':Bool}(k:RGo P nt ops l Q rest (acc++[⟨⟨dst,op,ty,pos,after,some (g,b)⟩,t::BZ xs,rS.map (·.1),(.opt (b'==b) v),[]⟩]) ⟨A6 T dst (.opt (b'==b) v),S⟩)(ht:(ops[g]?).bind (·.dst)=some t:=by rfl)(hv:BR T t=some (.prim (.bool b')):=by rfl)(h:Stp (some [b'==b]) P ⟨dst,op,ty,pos,after,some (g,b)⟩ T S xs rS v []:=by exact FO)(hd:Ao dst nt=true:=by rfl)(hos:Da xs=true:=by exact rfl):RGo P nt ops l Q (⟨dst,op,ty,pos,after,some (g,b)⟩::rest) acc ⟨T,S⟩:=Uh h ht hv hd hos k
theorem TF{c1:Bool}{g:Nat}{b b':Bool}(k:RGo P nt ops l Q rest (acc++[⟨⟨dst,op,ty,pos,after,some (g,b)⟩,t::BZ xs,rS.map (·.1),(.opt c1 (.opt (b'==b) v)),[]⟩]) ⟨A6 T dst (.opt c1 (.opt (b'==b) v)),S⟩)(ht:(ops[g]?).bind (·.dst)=some t:=by rfl)(hv:BR T t=some (.opt c1 (.prim (.bool b'))):=by rfl)(h:Stp (some [c1,b'==b]) P ⟨dst,op,ty,pos,after,some (g,b)⟩ T S xs rS v []:=by exact FO)(hd:Ao dst nt=true:=by rfl)(hos:Da xs=true:=by exact rfl):RGo P nt ops l Q (⟨dst,op,ty,pos,after,some (g,b)⟩::rest) acc ⟨T,S⟩:=Ug h ht hv hd hos k
theorem TE{c1 c2:Bool}{g:Nat}{b b':Bool}(k:RGo P nt ops l Q rest (acc++[⟨⟨dst,op,ty,pos,after,some (g,b)⟩,t::BZ xs,rS.map (·.1),(.opt c1 (.opt c2 (.opt (b'==b) v))),[]⟩]) ⟨A6 T dst (.opt c1 (.opt c2 (.opt (b'==b) v))),S⟩)(ht:(ops[g]?).bind (·.dst)=some t:=by rfl)(hv:BR T t=some (.opt c1 (.opt c2 (.prim (.bool b')))):=by rfl)(h:Stp (some [c1,c2,b'==b]) P ⟨dst,op,ty,pos,after,some (g,b)⟩ T S xs rS v []:=by exact FO)(hd:Ao dst nt=true:=by rfl)(hos:Da xs=true:=by exact rfl):RGo P nt ops l Q (⟨dst,op,ty,pos,after,some (g,b)⟩::rest) acc ⟨T,S⟩:=Uf h ht hv hd hos k
theorem Uj{g:Nat}{b b':Bool}(k:RGo P nt ops l Q rest (acc++[⟨⟨dst,op,ty,pos,after,some (g,b)⟩,[t],[],.dead,[]⟩]) ⟨A6 T dst .dead,S⟩)(ht:(ops[g]?).bind (·.dst)=some t:=by rfl)(hv:BR T t=some (.prim (.bool b')):=by rfl)(hb:b'= !b:=by first|rfl|assumption|(simp only[HB,ED];assumption))(hd:Ao dst nt=true:=by rfl):RGo P nt ops l Q (⟨dst,op,ty,pos,after,some (g,b)⟩::rest) acc ⟨T,S⟩:=Vh ht hv hb hd k
theorem Ui(k:RGo P nt ops l Q rest (acc++[⟨⟨dst,op,ty,pos,after,g⟩,ts++BZ xs,rS.map (·.1),v,wS⟩]) ⟨A6 T dst v,A5 S wS⟩)(h:Stp none P ⟨dst,op,ty,pos,after,g⟩ T S xs rS v wS:=by first|(apply GB;exact W.allocN (by exact AY) (by first|exact .inl rfl|exact .inr rfl) (by first|(dsimp only[zAV,List.map];try exact rfl)|exact rfl) (by exact rfl))|(apply Stp.g_box;exact W.box rfl (by exact AY) rfl))(hd:Ao dst nt=true:=by rfl)(hg:Grd ops T g ts:=by first|exact .none|exact .met rfl rfl (by first|rfl|assumption)):RGo P nt ops l Q (⟨dst,op,ty,pos,after,g⟩::rest) acc ⟨T,S⟩:=HT h hd hg k
theorem Cv{f:FuncId}{r r':AV}(hx:Rd none T x (.fn f cap):=by rfl)(h0:Rd none T x0 v0:=by rfl)(h1:Rd none T x1 v1:=by rfl)(h:PS P f (v0::v1::cap) r)(k:RGo P nt ops l Q rest (acc++[⟨⟨dst,.call ⟨.value x,#[x0,x1],ats⟩,ty,pos,after,g⟩,ts++BZ [(x,.fn f cap),(x0,v0),(x1,v1)],[],r',[]⟩]) ⟨A6 T dst r',S⟩)[hf:Frz r r'](hs:DG cap=true:=by first|rfl|assumption)(ht:BT [(x0,v0),(x1,v1)]=true:=by rfl)(hd:Ao dst nt=true:=by rfl)(hg:Grd ops T g ts:=by first|exact .none|exact .met rfl rfl (by first|rfl|assumption)):RGo P nt ops l Q (⟨dst,.call ⟨.value x,#[x0,x1],ats⟩,ty,pos,after,g⟩::rest) acc ⟨T,S⟩:=Ln (W.callC2 hx h0 h1 h hs ht hf.h) hd hg k
theorem P2{f:FuncId}{r r':AV}(h0:Rd none T x0 v0:=by rfl)(h:PS P f [v0] r)(k:RGo P nt ops l Q rest (acc++[⟨⟨dst,.call ⟨.value (.func f),#[x0],ats⟩,ty,pos,after,g⟩,ts++BZ [(x0,v0)],[],r',[]⟩]) ⟨A6 T dst r',S⟩)[hf:Frz r r'](ht:BT [(x0,v0)]=true:=by rfl)(hd:Ao dst nt=true:=by rfl)(hg:Grd ops T g ts:=by first|exact .none|exact .met rfl rfl (by first|rfl|assumption)):RGo P nt ops l Q (⟨dst,.call ⟨.value (.func f),#[x0],ats⟩,ty,pos,after,g⟩::rest) acc ⟨T,S⟩:=Ln (W.callF1 h0 h ht hf.h) hd hg k
theorem Je{f:FuncId}{r r':AV}(h0:Rd none T x0 v0:=by rfl)(h1:Rd none T x1 v1:=by rfl)(h:PS P f [v0,v1] r)(k:RGo P nt ops l Q rest (acc++[⟨⟨dst,.call ⟨.value (.func f),#[x0,x1],ats⟩,ty,pos,after,g⟩,ts++BZ [(x0,v0),(x1,v1)],[],r',[]⟩]) ⟨A6 T dst r',S⟩)[hf:Frz r r'](ht:BT [(x0,v0),(x1,v1)]=true:=by rfl)(hd:Ao dst nt=true:=by rfl)(hg:Grd ops T g ts:=by first|exact .none|exact .met rfl rfl (by first|rfl|assumption)):RGo P nt ops l Q (⟨dst,.call ⟨.value (.func f),#[x0,x1],ats⟩,ty,pos,after,g⟩::rest) acc ⟨T,S⟩:=Ln (W.callF2 h0 h1 h ht hf.h) hd hg k
theorem TI{f:FuncId}{r r':AV}(h0:Rd none T x0 v0:=by rfl)(h1:Rd none T x1 v1:=by rfl)(h2:Rd none T x2 v2:=by rfl)(h:PS P f [v0,v1,v2] r)(k:RGo P nt ops l Q rest (acc++[⟨⟨dst,.call ⟨.value (.func f),#[x0,x1,x2],ats⟩,ty,pos,after,g⟩,ts++BZ [(x0,v0),(x1,v1),(x2,v2)],[],r',[]⟩]) ⟨A6 T dst r',S⟩)[hf:Frz r r'](ht:BT [(x0,v0),(x1,v1),(x2,v2)]=true:=by rfl)(hd:Ao dst nt=true:=by rfl)(hg:Grd ops T g ts:=by first|exact .none|exact .met rfl rfl (by first|rfl|assumption)):RGo P nt ops l Q (⟨dst,.call ⟨.value (.func f),#[x0,x1,x2],ats⟩,ty,pos,after,g⟩::rest) acc ⟨T,S⟩:=Ln (W.callF3 h0 h1 h2 h ht hf.h) hd hg k
theorem No{f:FuncId}{r r':AV}{X p:Nat}{o o':AO}(h0:Rd none T x0 v0:=by rfl)(h1:Rd none T x1 v1:=by rfl)(h:PO P f [v0,v1] X o r o')(k:RGo P nt ops l Q rest (acc++[⟨⟨dst,.call ⟨.value (.func f),#[x0,x1],ats⟩,ty,pos,after,g⟩,ts++BZ [(x0,v0),(x1,v1)],[p],r',[(p,(X,o'))]⟩]) ⟨A6 T dst r',A5 S [(p,(X,o'))]⟩)(hSp:At S p (X,o):=by exact AY)[hf:Frz r r'](ht:BT [(x0,v0),(x1,v1)]=true:=by rfl)(hd:Ao dst nt=true:=by rfl)(hg:Grd ops T g ts:=by first|exact .none|exact .met rfl rfl (by first|rfl|assumption)):RGo P nt ops l Q (⟨dst,.call ⟨.value (.func f),#[x0,x1],ats⟩,ty,pos,after,g⟩::rest) acc ⟨T,S⟩:=HT (W.callO2 h0 h1 hSp h ht hf.h) hd hg k
end
section
variable {P:Program}{nt:Nat}{ops:Array Oper}{Q:Exit->St->Prop}{rest:List Oper}{T:List (Nat×AV)}{S:List AK}{xs:List (Operand×AV)}{rS wS:List (Nat×AK)}{v:AV}{op:Op}{ty:TypeId}{pos:String}{after:Array Edge}{dst:Option Tmp}
theorem EY{xs:Nat->List (Operand×AV)}{rS wS:Nat->List (Nat×AK)}{v:Nat->AV}(k:∀X,AOps ro P nt ops Q rest ⟨A6 T dst (v X),A5 ((X,.gone)::S) (wS X)⟩)(h:∀X,Stp none P ⟨dst,op,ty,pos,after,none⟩ T ((X,.gone)::S) (xs X) (rS X) (v X) (wS X):=by(intro X;first|(apply GB;exact W.allocN .here (by first|exact .inl rfl|exact .inr rfl) (by first|(dsimp only[zAV,List.map];try exact rfl)|exact rfl) (by exact rfl))|(apply Stp.g_box;exact W.box rfl .here rfl)))(hd:Ao dst nt=true:=by rfl):AOps ro P nt ops Q (⟨dst,op,ty,pos,after,none⟩::rest) ⟨T,S⟩:=Fe λX=>CM (h X) hd (k X)
end
section
variable {P:Program}{nt:Nat}{ops:Array Oper}{Q:Exit->St->Prop}{rest:List Oper}{T:List (Nat×AV)}{S:List AK}{l ls:List AV}{ty t t' te:TypeId}{sz X p q:Nat}{x y:Operand}{pos:String}{after:Array Edge}{dst:Option Tmp}
theorem UY{m b:Nat}(h:m<=1099511627776)(hb:b<=128):m*b<=140737488355328:=CT (Nat.mul_le_mul h hb) (by decide)
theorem WE{m b:Nat}(h:m*b<=140737488355328)(hb:0<b):m<=maxLen:=CT (CT (Jw m hb) h) (by decide)
theorem TZ{m by_:Nat}[TRo P t te sz by_](k:∀Y,AOps ro P nt ops Q rest ⟨A6 T dst (.sl Y 0 (m+ls.length)),S.set p (Y,.row te sz (l++ls))⟩)(hx:Rd none T x (.sl X 0 m):=by rfl)(hy:Rd none T y (.lst false t' sz ls):=by rfl)(hSp:At S p (X,.row te sz l):=by exact AY)(hn:m=l.length:=by first|rfl|assumption|omega|(simp;omega)|simp[*])(hb:(m+ls.length)*by_<=140737488355328:=by first|assumption|exact UY (by first|assumption|omega|(simp;omega)) (by decide)|omega|(simp;omega))(hby:0<by_:=by decide)(hd:Ao dst nt=true:=by rfl):AOps ro P nt ops Q (⟨dst,.call ⟨.builtin .append,#[x,y],#[t,t]⟩,ty,pos,after,none⟩::rest) ⟨T,S⟩:=by
 subst hn;refine Fe λY=>CM (W.app (q:=0) (p:=p+1) (X:=X) (Y:=Y) hx hy .here (.next hSp) rfl hb (WE hb hby) (by simp)) hd (AOps.sub ?_ (k Y))
 ·exact .cons _ (.refl _)
theorem Uk{m by_ Y:Nat}[TRo P t te sz by_](k:RGo P nt ops l0 Q rest (acc++[⟨⟨dst,.call ⟨.builtin .append,#[x,y],#[t,t]⟩,ty,pos,after,none⟩,BZ [(x,.sl X 0 m),(y,.lst false t' sz ls)],[q,p],.sl Y 0 (m+ls.length),[(q,(X,.used)),(p,(Y,.row te sz (l++ls)))]⟩]) ⟨A6 T dst (.sl Y 0 (m+ls.length)),A5 S [(q,(X,.used)),(p,(Y,.row te sz (l++ls)))]⟩)(hx:Rd none T x (.sl X 0 m):=by rfl)(hy:Rd none T y (.lst false t' sz ls):=by rfl)(hSq:At S q (Y,.gone):=by exact AY)(hSp:At S p (X,.row te sz l):=by exact AY)(hn:m=l.length:=by first|rfl|assumption|omega|(simp;omega)|simp[*])(hb:(m+ls.length)*by_<=140737488355328:=by first|assumption|exact UY (by first|assumption|omega|(simp;omega)) (by decide)|omega|(simp;omega))(hqp:q≠p:=by decide)(hby:0<by_:=by decide)(hd:Ao dst nt=true:=by rfl):RGo P nt ops l0 Q (⟨dst,.call ⟨.builtin .append,#[x,y],#[t,t]⟩,ty,pos,after,none⟩::rest) acc ⟨T,S⟩:=by
 subst hn;exact RGo.s (W.app hx hy hSq hSp rfl hb (WE hb hby) hqp) hd k
theorem D5(v:AV)(k:AOps ro P nt ops Q rest ⟨A6 T dst (.lst false te sz [v]),S⟩)[TEl P t te][TZe P te zl][TSize P te sz][TAg P te ag][hz:Frz v v](h0:Rd none T x v:=by exact rfl)(hzs:zl.length=sz:=by exact rfl)(hag:ag=true\/zl.length=1:=by first|exact .inl rfl|exact .inr rfl)(hn:1*sz<=16777216:=by decide)(hpos:0<1*sz:=by decide)(hf:Eo sz (List.replicate 1 (zAV zl ag)) [(0,v)]=some [v]:=by exact rfl)(hd:Ao dst nt=true:=by rfl):AOps ro P nt ops Q (⟨dst,.buildSlice t 1 #[(0,x)],ty,pos,after,none⟩::rest) ⟨T,S⟩:=
 AQ (W.litF1 h0 hzs hag hn hpos hf) hd k
theorem Gs(v:AV)(k:RGo P nt ops l0 Q rest (acc++[⟨⟨dst,.buildSlice t 1 #[(0,x)],ty,pos,after,none⟩,BZ [(x,v)],[],.lst false te sz [v],[]⟩]) ⟨A6 T dst (.lst false te sz [v]),S⟩)[TEl P t te][TZe P te zl][TSize P te sz][TAg P te ag][hz:Frz v v](h0:Rd none T x v:=by exact rfl)(hzs:zl.length=sz:=by exact rfl)(hag:ag=true\/zl.length=1:=by first|exact .inl rfl|exact .inr rfl)(hn:1*sz<=16777216:=by decide)(hpos:0<1*sz:=by decide)(hf:Eo sz (List.replicate 1 (zAV zl ag)) [(0,v)]=some [v]:=by exact rfl)(hd:Ao dst nt=true:=by rfl):RGo P nt ops l0 Q (⟨dst,.buildSlice t 1 #[(0,x)],ty,pos,after,none⟩::rest) acc ⟨T,S⟩:=
 RGo.p (W.litF1 h0 hzs hag hn hpos hf) hd k
theorem Id{ar:Array (Nat×Operand)}{st:St}(k:AOps ro P nt ops Q (⟨dst,.buildSlice t n ar,ty,pos,after,g⟩::rest) st):AOps ro P nt ops Q (⟨dst,.buildSlice t n ar,ty,pos,after,g⟩::rest) st:=k
theorem Vr{ar:Array (Nat×Operand)}{st:St}(k:RGo P nt ops l0 Q (⟨dst,.buildSlice t n ar,ty,pos,after,g⟩::rest) acc st):RGo P nt ops l0 Q (⟨dst,.buildSlice t n ar,ty,pos,after,g⟩::rest) acc st:=k
theorem Nz{d:Nat}{st:St}(k:AOps ro P nt ops Q (⟨dst,.call ⟨.value (.tmp d),xs,ats⟩,ty,pos,after,g⟩::rest) st):AOps ro P nt ops Q (⟨dst,.call ⟨.value (.tmp d),xs,ats⟩,ty,pos,after,g⟩::rest) st:=k
theorem BM{d:Nat}{st:St}(k:RGo P nt ops l0 Q (⟨dst,.call ⟨.value (.tmp d),xs,ats⟩,ty,pos,after,g⟩::rest) acc st):RGo P nt ops l0 Q (⟨dst,.call ⟨.value (.tmp d),xs,ats⟩,ty,pos,after,g⟩::rest) acc st:=k
theorem AZ{f:FuncId}{st:St}(k:AOps ro P nt ops Q (⟨dst,.call ⟨.value (.func f),xs,ats⟩,ty,pos,after,g⟩::rest) st):AOps ro P nt ops Q (⟨dst,.call ⟨.value (.func f),xs,ats⟩,ty,pos,after,g⟩::rest) st:=k
theorem VA{f:FuncId}{st:St}(k:RGo P nt ops l0 Q (⟨dst,.call ⟨.value (.func f),xs,ats⟩,ty,pos,after,g⟩::rest) acc st):RGo P nt ops l0 Q (⟨dst,.call ⟨.value (.func f),xs,ats⟩,ty,pos,after,g⟩::rest) acc st:=k
end
section
variable {P:Program}{nt:Nat}{ops:Array Oper}{Q:Exit->St->Prop}{l rest:List Oper}{acc:List Eff}{st:St}{op:Op}{ty:TypeId}{pos:String}{after:Array Edge}{dst:Option Tmp}
theorem AX(k:AOps ro P nt ops Q (⟨dst,op,ty,pos,after,none⟩::rest) st):AOps ro P nt ops Q (⟨dst,op,ty,pos,after,none⟩::rest) st:=k
theorem B0(k:RGo P nt ops l Q (⟨dst,op,ty,pos,after,none⟩::rest) acc st):RGo P nt ops l Q (⟨dst,op,ty,pos,after,none⟩::rest) acc st:=k
end
theorem DL{st:St}(inv:β->St)(R:β->Prop)(μ:β->Nat)(b0:β)(hR:R b0)(round:∀b,R b->AWP ro P nt c (andThen (λst'=>∃b',R b' /\μ b'<μ b/\st'.Le (inv b')) Q) (inv b))(h0:st.Le (inv b0):=by exact⟨by exact EL,by exact Av⟩):AWP ro P nt (.loop c) Q st:=DH inv R μ b0 hR h0 round
theorem Ns{st:St}(T:List (Nat×AV))(S:List AK)(k:AWP ro P nt c Q ⟨T,S⟩)(h:st.Le ⟨T,S⟩:=by exact⟨by exact EL,by exact Av⟩):AWP ro P nt c Q st:=AWP.weak h k
theorem DB{R:β->Prop}{μ:β->Nat}{inv:β->St}{st:St}(b':β)(hR:R b')(hμ:μ b'<m:=by omega)(h0:st.Le (inv b'):=by exact⟨by exact EL,by exact Av⟩):∃b',R b' /\μ b'<m/\st.Le (inv b'):=⟨b',hR,hμ,h0⟩
theorem B6{st:St}{β0 β1:Type}(inv:β0->β1->St)(R:β0->β1->Prop)(μ:β0->β1->Nat)(c0:β0)(c1:β1)(hR:R c0 c1)(round:∀b0 b1,R b0 b1->AWP ro P nt c (andThen (λst'=>∃b0' b1',R b0' b1' /\μ b0' b1'<μ b0 b1/\st'.Le (inv b0' b1')) Q) (inv b0 b1))(h0:st.Le (inv c0 c1):=by exact⟨by exact EL,by exact Av⟩):AWP ro P nt (.loop c) Q st:=
 DH (β:=β0×β1) (λb=>inv b.1 b.2) (λb=>R b.1 b.2) (λb=>μ b.1 b.2) (c0,c1) hR h0 λb hb=>(round b.1 b.2 hb).mono λe st' h=>by
  cases e with
  |normal=>obtain⟨b0',b1',h1,h2,h3⟩:=h;exact⟨(b0',b1'),h1,h2,h3⟩
  |_=>exact h
theorem BV{β0 β1:Type}{R:β0->β1->Prop}{μ:β0->β1->Nat}{inv:β0->β1->St}{st:St}(b0':β0)(b1':β1)(hR:R b0' b1')(hμ:μ b0' b1'<m:=by omega)(h0:st.Le (inv b0' b1'):=by exact⟨by exact EL,by exact Av⟩):∃b0' b1',R b0' b1' /\μ b0' b1'<m/\st.Le (inv b0' b1'):=⟨b0',b1',hR,hμ,h0⟩
theorem GD{st:St}{β0 β1 β2:Type}(inv:β0->β1->β2->St)(R:β0->β1->β2->Prop)(μ:β0->β1->β2->Nat)(c0:β0)(c1:β1)(c2:β2)(hR:R c0 c1 c2)(round:∀b0 b1 b2,R b0 b1 b2->AWP ro P nt c (andThen (λst'=>∃b0' b1' b2',R b0' b1' b2' /\μ b0' b1' b2'<μ b0 b1 b2/\st'.Le (inv b0' b1' b2')) Q) (inv b0 b1 b2))(h0:st.Le (inv c0 c1 c2):=by exact⟨by exact EL,by exact Av⟩):AWP ro P nt (.loop c) Q st:=
 DH (β:=β0×β1×β2) (λb=>inv b.1 b.2.1 b.2.2) (λb=>R b.1 b.2.1 b.2.2) (λb=>μ b.1 b.2.1 b.2.2) (c0,c1,c2) hR h0 λb hb=>(round b.1 b.2.1 b.2.2 hb).mono λe st' h=>by
  cases e with
  |normal=>obtain⟨b0',b1',b2',h1,h2,h3⟩:=h;exact⟨(b0',b1',b2'),h1,h2,h3⟩
  |_=>exact h
theorem Ek{β0 β1 β2:Type}{R:β0->β1->β2->Prop}{μ:β0->β1->β2->Nat}{inv:β0->β1->β2->St}{st:St}(b0':β0)(b1':β1)(b2':β2)(hR:R b0' b1' b2')(hμ:μ b0' b1' b2'<m:=by omega)(h0:st.Le (inv b0' b1' b2'):=by exact⟨by exact EL,by exact Av⟩):∃b0' b1' b2',R b0' b1' b2' /\μ b0' b1' b2'<m/\st.Le (inv b0' b1' b2'):=⟨b0',b1',b2',hR,hμ,h0⟩
theorem I5{st:St}{β0 β1 β2 β3:Type}(inv:β0->β1->β2->β3->St)(R:β0->β1->β2->β3->Prop)(μ:β0->β1->β2->β3->Nat)(c0:β0)(c1:β1)(c2:β2)(c3:β3)(hR:R c0 c1 c2 c3)(round:∀b0 b1 b2 b3,R b0 b1 b2 b3->AWP ro P nt c (andThen (λst'=>∃b0' b1' b2' b3',R b0' b1' b2' b3' /\μ b0' b1' b2' b3'<μ b0 b1 b2 b3/\st'.Le (inv b0' b1' b2' b3')) Q) (inv b0 b1 b2 b3))(h0:st.Le (inv c0 c1 c2 c3):=by exact⟨by exact EL,by exact Av⟩):AWP ro P nt (.loop c) Q st:=
 DH (β:=β0×β1×β2×β3) (λb=>inv b.1 b.2.1 b.2.2.1 b.2.2.2) (λb=>R b.1 b.2.1 b.2.2.1 b.2.2.2) (λb=>μ b.1 b.2.1 b.2.2.1 b.2.2.2) (c0,c1,c2,c3) hR h0 λb hb=>(round b.1 b.2.1 b.2.2.1 b.2.2.2 hb).mono λe st' h=>by
  cases e with
  |normal=>obtain⟨b0',b1',b2',b3',h1,h2,h3⟩:=h;exact⟨(b0',b1',b2',b3'),h1,h2,h3⟩
  |_=>exact h
theorem GP{β0 β1 β2 β3:Type}{R:β0->β1->β2->β3->Prop}{μ:β0->β1->β2->β3->Nat}{inv:β0->β1->β2->β3->St}{st:St}(b0':β0)(b1':β1)(b2':β2)(b3':β3)(hR:R b0' b1' b2' b3')(hμ:μ b0' b1' b2' b3'<m:=by omega)(h0:st.Le (inv b0' b1' b2' b3'):=by exact⟨by exact EL,by exact Av⟩):∃b0' b1' b2' b3',R b0' b1' b2' b3' /\μ b0' b1' b2' b3'<m/\st.Le (inv b0' b1' b2' b3'):=⟨b0',b1',b2',b3',hR,hμ,h0⟩
theorem Qk{st:St}{β0 β1 β2 β3 β4:Type}(inv:β0->β1->β2->β3->β4->St)(R:β0->β1->β2->β3->β4->Prop)(μ:β0->β1->β2->β3->β4->Nat)(c0:β0)(c1:β1)(c2:β2)(c3:β3)(c4:β4)(hR:R c0 c1 c2 c3 c4)(round:∀b0 b1 b2 b3 b4,R b0 b1 b2 b3 b4->AWP ro P nt c (andThen (λst'=>∃b0' b1' b2' b3' b4',R b0' b1' b2' b3' b4' /\μ b0' b1' b2' b3' b4'<μ b0 b1 b2 b3 b4/\st'.Le (inv b0' b1' b2' b3' b4')) Q) (inv b0 b1 b2 b3 b4))(h0:st.Le (inv c0 c1 c2 c3 c4):=by exact⟨by exact EL,by exact Av⟩):AWP ro P nt (.loop c) Q st:=
 DH (β:=β0×β1×β2×β3×β4) (λb=>inv b.1 b.2.1 b.2.2.1 b.2.2.2.1 b.2.2.2.2) (λb=>R b.1 b.2.1 b.2.2.1 b.2.2.2.1 b.2.2.2.2) (λb=>μ b.1 b.2.1 b.2.2.1 b.2.2.2.1 b.2.2.2.2) (c0,c1,c2,c3,c4) hR h0 λb hb=>(round b.1 b.2.1 b.2.2.1 b.2.2.2.1 b.2.2.2.2 hb).mono λe st' h=>by
  cases e with
  |normal=>obtain⟨b0',b1',b2',b3',b4',h1,h2,h3⟩:=h;exact⟨(b0',b1',b2',b3',b4'),h1,h2,h3⟩
  |_=>exact h
theorem Ku{β0 β1 β2 β3 β4:Type}{R:β0->β1->β2->β3->β4->Prop}{μ:β0->β1->β2->β3->β4->Nat}{inv:β0->β1->β2->β3->β4->St}{st:St}(b0':β0)(b1':β1)(b2':β2)(b3':β3)(b4':β4)(hR:R b0' b1' b2' b3' b4')(hμ:μ b0' b1' b2' b3' b4'<m:=by omega)(h0:st.Le (inv b0' b1' b2' b3' b4'):=by exact⟨by exact EL,by exact Av⟩):∃b0' b1' b2' b3' b4',R b0' b1' b2' b3' b4' /\μ b0' b1' b2' b3' b4'<m/\st.Le (inv b0' b1' b2' b3' b4'):=⟨b0',b1',b2',b3',b4',hR,hμ,h0⟩
theorem Up{st:St}{β0 β1 β2 β3 β4 β5:Type}(inv:β0->β1->β2->β3->β4->β5->St)(R:β0->β1->β2->β3->β4->β5->Prop)(μ:β0->β1->β2->β3->β4->β5->Nat)(c0:β0)(c1:β1)(c2:β2)(c3:β3)(c4:β4)(c5:β5)(hR:R c0 c1 c2 c3 c4 c5)(round:∀b0 b1 b2 b3 b4 b5,R b0 b1 b2 b3 b4 b5->AWP ro P nt c (andThen (λst'=>∃b0' b1' b2' b3' b4' b5',R b0' b1' b2' b3' b4' b5' /\μ b0' b1' b2' b3' b4' b5'<μ b0 b1 b2 b3 b4 b5/\st'.Le (inv b0' b1' b2' b3' b4' b5')) Q) (inv b0 b1 b2 b3 b4 b5))(h0:st.Le (inv c0 c1 c2 c3 c4 c5):=by exact⟨by exact EL,by exact Av⟩):AWP ro P nt (.loop c) Q st:=
 DH (β:=β0×β1×β2×β3×β4×β5) (λb=>inv b.1 b.2.1 b.2.2.1 b.2.2.2.1 b.2.2.2.2.1 b.2.2.2.2.2) (λb=>R b.1 b.2.1 b.2.2.1 b.2.2.2.1 b.2.2.2.2.1 b.2.2.2.2.2) (λb=>μ b.1 b.2.1 b.2.2.1 b.2.2.2.1 b.2.2.2.2.1 b.2.2.2.2.2) (c0,c1,c2,c3,c4,c5) hR h0 λb hb=>(round b.1 b.2.1 b.2.2.1 b.2.2.2.1 b.2.2.2.2.1 b.2.2.2.2.2 hb).mono λe st' h=>by
  cases e with
  |normal=>obtain⟨b0',b1',b2',b3',b4',b5',h1,h2,h3⟩:=h;exact⟨(b0',b1',b2',b3',b4',b5'),h1,h2,h3⟩
  |_=>exact h
theorem Kt{β0 β1 β2 β3 β4 β5:Type}{R:β0->β1->β2->β3->β4->β5->Prop}{μ:β0->β1->β2->β3->β4->β5->Nat}{inv:β0->β1->β2->β3->β4->β5->St}{st:St}(b0':β0)(b1':β1)(b2':β2)(b3':β3)(b4':β4)(b5':β5)(hR:R b0' b1' b2' b3' b4' b5')(hμ:μ b0' b1' b2' b3' b4' b5'<m:=by omega)(h0:st.Le (inv b0' b1' b2' b3' b4' b5'):=by exact⟨by exact EL,by exact Av⟩):∃b0' b1' b2' b3' b4' b5',R b0' b1' b2' b3' b4' b5' /\μ b0' b1' b2' b3' b4' b5'<m/\st.Le (inv b0' b1' b2' b3' b4' b5'):=⟨b0',b1',b2',b3',b4',b5',hR,hμ,h0⟩
theorem Uo{st:St}{β0 β1 β2 β3 β4 β5 β6:Type}(inv:β0->β1->β2->β3->β4->β5->β6->St)(R:β0->β1->β2->β3->β4->β5->β6->Prop)(μ:β0->β1->β2->β3->β4->β5->β6->Nat)(c0:β0)(c1:β1)(c2:β2)(c3:β3)(c4:β4)(c5:β5)(c6:β6)(hR:R c0 c1 c2 c3 c4 c5 c6)(round:∀b0 b1 b2 b3 b4 b5 b6,R b0 b1 b2 b3 b4 b5 b6->AWP ro P nt c (andThen (λst'=>∃b0' b1' b2' b3' b4' b5' b6',R b0' b1' b2' b3' b4' b5' b6' /\μ b0' b1' b2' b3' b4' b5' b6'<μ b0 b1 b2 b3 b4 b5 b6/\st'.Le (inv b0' b1' b2' b3' b4' b5' b6')) Q) (inv b0 b1 b2 b3 b4 b5 b6))(h0:st.Le (inv c0 c1 c2 c3 c4 c5 c6):=by exact⟨by exact EL,by exact Av⟩):AWP ro P nt (.loop c) Q st:=
 DH (β:=β0×β1×β2×β3×β4×β5×β6) (λb=>inv b.1 b.2.1 b.2.2.1 b.2.2.2.1 b.2.2.2.2.1 b.2.2.2.2.2.1 b.2.2.2.2.2.2) (λb=>R b.1 b.2.1 b.2.2.1 b.2.2.2.1 b.2.2.2.2.1 b.2.2.2.2.2.1 b.2.2.2.2.2.2) (λb=>μ b.1 b.2.1 b.2.2.1 b.2.2.2.1 b.2.2.2.2.1 b.2.2.2.2.2.1 b.2.2.2.2.2.2) (c0,c1,c2,c3,c4,c5,c6) hR h0 λb hb=>(round b.1 b.2.1 b.2.2.1 b.2.2.2.1 b.2.2.2.2.1 b.2.2.2.2.2.1 b.2.2.2.2.2.2 hb).mono λe st' h=>by
  cases e with
  |normal=>obtain⟨b0',b1',b2',b3',b4',b5',b6',h1,h2,h3⟩:=h;exact⟨(b0',b1',b2',b3',b4',b5',b6'),h1,h2,h3⟩
  |_=>exact h
theorem OO{β0 β1 β2 β3 β4 β5 β6:Type}{R:β0->β1->β2->β3->β4->β5->β6->Prop}{μ:β0->β1->β2->β3->β4->β5->β6->Nat}{inv:β0->β1->β2->β3->β4->β5->β6->St}{st:St}(b0':β0)(b1':β1)(b2':β2)(b3':β3)(b4':β4)(b5':β5)(b6':β6)(hR:R b0' b1' b2' b3' b4' b5' b6')(hμ:μ b0' b1' b2' b3' b4' b5' b6'<m:=by omega)(h0:st.Le (inv b0' b1' b2' b3' b4' b5' b6'):=by exact⟨by exact EL,by exact Av⟩):∃b0' b1' b2' b3' b4' b5' b6',R b0' b1' b2' b3' b4' b5' b6' /\μ b0' b1' b2' b3' b4' b5' b6'<m/\st.Le (inv b0' b1' b2' b3' b4' b5' b6'):=⟨b0',b1',b2',b3',b4',b5',b6',hR,hμ,h0⟩
theorem An{st:St}{a r:AV}(e:a=r)(h:BR st.T t=some a:=by rfl)(ha:ntup a=true:=by rfl)(hS:Sf.Sublist st.S:=by exact Av):Ends P [.tmp t] Sf (λr' S'=>r'=r/\S'=[]) st:=Be h ha hS ⟨e,rfl⟩
theorem P6(S:List AK):∀as:List AV,CVs S as as S
 |[]=>.nil
 |_::as=>.cons (.cell .same) (P6 S as)
theorem Qh{st:St}{rs:List AV}{r:AV}(e:Md rs=r)(h:ResVs P st res rs:=by(repeat (first|exact .nil|refine .cons (.tmp (by rfl)) (by rfl) ?_|refine .cons (.cell (by rfl) (by exact AY) TAg.h TSize.h (by exact rfl) (by exact rfl)) (by rfl) ?_)))(hS:Sf.Sublist st.S:=by exact Av):Ends P res Sf (λr' S'=>r'=r/\S'=[]) st:=⟨rs,rs,st.S,[],h,P6 _ _,hS,e,rfl⟩
theorem TT{st:St}{op:Op}{ty:TypeId}{g:Nat}{b b':Bool}(k:AOps ro P nt ops Q (⟨dst,op,ty,pos,after,none⟩::rest) st)(ht:(ops[g]?).bind (·.dst)=some t:=by rfl)(hv:BR st.T t=some (.prim (.bool b')):=by rfl)(hb:b'=b:=by first|rfl|assumption):AOps ro P nt ops Q (⟨dst,op,ty,pos,after,some (g,b)⟩::rest) st:=by
 intro m0 a w hr;have h:=k m0 a w hr
 have hy:yielded ops a.tmps g=some b:=by
  obtain⟨m,N,Z,h1,h2,h3,h4,h5,h6⟩:=hr;obtain⟨u,hu1,hu2⟩:=h6 t _ hv;obtain⟨⟨e,_⟩,_⟩:=hu2;injection e with e
  subst e hb;simp[yielded,ht,hu1]
 unfold wpListIn at h⊢;rw[A1 (by simp[Region.wanted])]at h;rw[A1 (by simp[Region.wanted,hy])];exact h
structure All(p:Nat->Prop):Prop where
 i::
 h:∀X,p X
structure AllY(p:Nat->Prop):Prop where
 i::
 h:∀X,p X
section
variable {P:Program}{nt:Nat}{ops:Array Oper}{Q:Exit->St->Prop}{rest:List Oper}{T:List (Nat×AV)}{S:List AK}{xs:List (Operand×AV)}{rS wS:List (Nat×AK)}{v:AV}{op:Op}{ty:TypeId}{pos:String}{after:Array Edge}{dst:Option Tmp}{t t2 t' te:TypeId}{x y z:Operand}{g:Option (Nat×Bool)}{st:St}{c:Code}{l ls:List AV}{sz X p q:Nat}
theorem NG{xs:Nat->List (Operand×AV)}{rS wS:Nat->List (Nat×AK)}{v:Nat->AV}(h:∀X,Stp none P ⟨dst,op,ty,pos,after,none⟩ T ((X,.gone)::S) (xs X) (rS X) (v X) (wS X):=by(intro X;first|(apply GB;exact W.allocN .here (by first|exact .inl rfl|exact .inr rfl) (by first|(dsimp only[zAV,List.map];try exact rfl)|exact rfl) (by exact rfl))|(apply Stp.g_box;exact W.box rfl .here rfl)))(hd:Ao dst nt=true:=by rfl):(All λX=>AOps ro P nt ops Q rest ⟨A6 T dst (v X),A5 ((X,.gone)::S) (wS X)⟩)->AOps ro P nt ops Q (⟨dst,op,ty,pos,after,none⟩::rest) ⟨T,S⟩:=λk=>EY k.h h hd
theorem Rv{m by_:Nat}[TRo P t te sz by_](hx:Rd none T x (.sl X 0 m):=by rfl)(hy:Rd none T y (.lst false t' sz ls):=by rfl)(hSp:At S p (X,.row te sz l):=by exact AY)(hn:m=l.length:=by first|rfl|assumption|omega|(simp;omega)|simp[*])(hb:(m+ls.length)*by_<=140737488355328:=by first|assumption|exact UY (by first|assumption|omega|(simp;omega)) (by decide)|omega|(simp;omega))(hby:0<by_:=by decide)(hd:Ao dst nt=true:=by rfl):(AllY λY=>AOps ro P nt ops Q rest ⟨A6 T dst (.sl Y 0 (m+ls.length)),S.set p (Y,.row te sz (l++ls))⟩)->AOps ro P nt ops Q (⟨dst,.call ⟨.builtin .append,#[x,y],#[t,t]⟩,ty,pos,after,none⟩::rest) ⟨T,S⟩:=λk=>TZ k.h hx hy hSp hn hb hby hd
end
section
variable {P:Program}{nt:Nat}{ops:Array Oper}{Q:Exit->St->Prop}{rest:List Oper}{T:List (Nat×AV)}{S:List AK}{xs:List (Operand×AV)}{rS wS:List (Nat×AK)}{v:AV}{op:Op}{ty:TypeId}{pos:String}{after:Array Edge}{dst:Option Tmp}{t t2 t' te:TypeId}{x y z:Operand}{g:Option (Nat×Bool)}{st:St}{c:Code}{l ls:List AV}{sz X p q:Nat}
theorem TU(h:Stp none P ⟨dst,op,ty,pos,after,none⟩ T S xs rS v []:=by exact Jc)(hd:Ao dst nt=true:=by rfl):(AOps ro P nt ops Q rest ⟨A6 T dst v,S⟩)->AOps ro P nt ops Q (⟨dst,op,ty,pos,after,none⟩::rest) ⟨T,S⟩:=λk=>DZ (k:=k) (h:=h) (hd:=hd)
theorem Rq(h:Stp none P ⟨dst,op,ty,pos,after,none⟩ T S xs rS v wS:=by exact Lc)(hd:Ao dst nt=true:=by rfl):(AOps ro P nt ops Q rest ⟨A6 T dst v,A5 S wS⟩)->AOps ro P nt ops Q (⟨dst,op,ty,pos,after,none⟩::rest) ⟨T,S⟩:=λk=>TX (k:=k) (h:=h) (hd:=hd)
theorem Rp{P:Program}{nt:Nat}{ops:Array Oper}{Q:Exit->St->Prop}{rest:List Oper}{st:St}{op:Op}{ty:TypeId}{pos:String}{after:Array Edge}{dst:Option Tmp}{g:Nat}{b b':Bool}{t:Nat}(ht:(ops[g]?).bind (·.dst)=some t:=by rfl)(hv:BR st.T t=some (.prim (.bool b')):=by rfl)(hb:b'=b:=by first|rfl|assumption):(AOps ro P nt ops Q (⟨dst,op,ty,pos,after,none⟩::rest) st)->AOps ro P nt ops Q (⟨dst,op,ty,pos,after,some (g,b)⟩::rest) st:=λk=>TT (k:=k) (ht:=ht) (hv:=hv) (hb:=hb)
theorem Ru{g:Nat}{b b':Bool}{t:Nat}(ht:(ops[g]?).bind (·.dst)=some t:=by rfl)(hv:BR T t=some (.prim (.bool b')):=by rfl)(hb:b'= !b:=by first|rfl|assumption|(simp only[HB,ED];assumption))(hd:Ao dst nt=true:=by rfl):(AOps ro P nt ops Q rest ⟨A6 T dst .dead,S⟩)->AOps ro P nt ops Q (⟨dst,op,ty,pos,after,some (g,b)⟩::rest) ⟨T,S⟩:=λk=>TY (k:=k) (ht:=ht) (hv:=hv) (hb:=hb) (hd:=hd)
theorem QE{g:Nat}{b b':Bool}{t:Nat}(ht:(ops[g]?).bind (·.dst)=some t:=by rfl)(hv:BR T t=some (.prim (.bool b')):=by rfl)(h:Stp (some [b'==b]) P ⟨dst,op,ty,pos,after,some (g,b)⟩ T S xs rS v []:=by exact FO)(hd:Ao dst nt=true:=by rfl)(hos:Da xs=true:=by exact rfl):(AOps ro P nt ops Q rest ⟨A6 T dst (.opt (b'==b) v),S⟩)->AOps ro P nt ops Q (⟨dst,op,ty,pos,after,some (g,b)⟩::rest) ⟨T,S⟩:=λk=>Rt (k:=k) (ht:=ht) (hv:=hv) (h:=h) (hd:=hd) (hos:=hos)
theorem QD{c1:Bool}{g:Nat}{b b':Bool}{t:Nat}(ht:(ops[g]?).bind (·.dst)=some t:=by rfl)(hv:BR T t=some (.opt c1 (.prim (.bool b'))):=by rfl)(h:Stp (some [c1,b'==b]) P ⟨dst,op,ty,pos,after,some (g,b)⟩ T S xs rS v []:=by exact FO)(hd:Ao dst nt=true:=by rfl)(hos:Da xs=true:=by exact rfl):(AOps ro P nt ops Q rest ⟨A6 T dst (.opt c1 (.opt (b'==b) v)),S⟩)->AOps ro P nt ops Q (⟨dst,op,ty,pos,after,some (g,b)⟩::rest) ⟨T,S⟩:=λk=>Rs (k:=k) (ht:=ht) (hv:=hv) (h:=h) (hd:=hd) (hos:=hos)
theorem QC{c1 c2:Bool}{g:Nat}{b b':Bool}{t:Nat}(ht:(ops[g]?).bind (·.dst)=some t:=by rfl)(hv:BR T t=some (.opt c1 (.opt c2 (.prim (.bool b')))):=by rfl)(h:Stp (some [c1,c2,b'==b]) P ⟨dst,op,ty,pos,after,some (g,b)⟩ T S xs rS v []:=by exact FO)(hd:Ao dst nt=true:=by rfl)(hos:Da xs=true:=by exact rfl):(AOps ro P nt ops Q rest ⟨A6 T dst (.opt c1 (.opt c2 (.opt (b'==b) v))),S⟩)->AOps ro P nt ops Q (⟨dst,op,ty,pos,after,some (g,b)⟩::rest) ⟨T,S⟩:=λk=>Rr (k:=k) (ht:=ht) (hv:=hv) (h:=h) (hd:=hd) (hos:=hos)
end
section
variable {P:Program}{nt:Nat}{ops:Array Oper}{Q:Exit->St->Prop}{rest:List Oper}{T:List (Nat×AV)}{S:List AK}{xs:List (Operand×AV)}{rS wS:List (Nat×AK)}{v:AV}{op:Op}{ty:TypeId}{pos:String}{after:Array Edge}{dst:Option Tmp}{t t2 t' te:TypeId}{x y z:Operand}{st:St}{c:Code}{l:List Oper}{acc:List Eff}
theorem Qd(h:Stp none P ⟨dst,op,ty,pos,after,g⟩ T S xs rS v []:=by exact Jc)(hd:Ao dst nt=true:=by rfl)(hg:Grd ops T g ts:=by first|exact .none|exact .met rfl rfl (by first|rfl|assumption)):(RGo P nt ops l Q rest (acc++[⟨⟨dst,op,ty,pos,after,g⟩,ts++BZ xs,rS.map (·.1),v,[]⟩]) ⟨A6 T dst v,S⟩)->RGo P nt ops l Q (⟨dst,op,ty,pos,after,g⟩::rest) acc ⟨T,S⟩:=λk=>BQ (k:=k) (h:=h) (hd:=hd) (hg:=hg)
theorem O6(h:Stp none P ⟨dst,op,ty,pos,after,g⟩ T S xs rS v wS:=by exact Lc)(hd:Ao dst nt=true:=by rfl)(hg:Grd ops T g ts:=by first|exact .none|exact .met rfl rfl (by first|rfl|assumption)):(RGo P nt ops l Q rest (acc++[⟨⟨dst,op,ty,pos,after,g⟩,ts++BZ xs,rS.map (·.1),v,wS⟩]) ⟨A6 T dst v,A5 S wS⟩)->RGo P nt ops l Q (⟨dst,op,ty,pos,after,g⟩::rest) acc ⟨T,S⟩:=λk=>Ea (k:=k) (h:=h) (hd:=hd) (hg:=hg)
theorem TH{g:Nat}{b b':Bool}{t:Nat}(ht:(ops[g]?).bind (·.dst)=some t:=by rfl)(hv:BR T t=some (.prim (.bool b')):=by rfl)(hb:b'= !b:=by first|rfl|assumption|(simp only[HB,ED];assumption))(hd:Ao dst nt=true:=by rfl):(RGo P nt ops l Q rest (acc++[⟨⟨dst,op,ty,pos,after,some (g,b)⟩,[t],[],.dead,[]⟩]) ⟨A6 T dst .dead,S⟩)->RGo P nt ops l Q (⟨dst,op,ty,pos,after,some (g,b)⟩::rest) acc ⟨T,S⟩:=λk=>Uj (k:=k) (ht:=ht) (hv:=hv) (hb:=hb) (hd:=hd)
theorem Rj{g:Nat}{b b':Bool}{t:Nat}(ht:(ops[g]?).bind (·.dst)=some t:=by rfl)(hv:BR T t=some (.prim (.bool b')):=by rfl)(h:Stp (some [b'==b]) P ⟨dst,op,ty,pos,after,some (g,b)⟩ T S xs rS v []:=by exact FO)(hd:Ao dst nt=true:=by rfl)(hos:Da xs=true:=by exact rfl):(RGo P nt ops l Q rest (acc++[⟨⟨dst,op,ty,pos,after,some (g,b)⟩,t::BZ xs,rS.map (·.1),(.opt (b'==b) v),[]⟩]) ⟨A6 T dst (.opt (b'==b) v),S⟩)->RGo P nt ops l Q (⟨dst,op,ty,pos,after,some (g,b)⟩::rest) acc ⟨T,S⟩:=λk=>TG (k:=k) (ht:=ht) (hv:=hv) (h:=h) (hd:=hd) (hos:=hos)
theorem Ri{c1:Bool}{g:Nat}{b b':Bool}{t:Nat}(ht:(ops[g]?).bind (·.dst)=some t:=by rfl)(hv:BR T t=some (.opt c1 (.prim (.bool b'))):=by rfl)(h:Stp (some [c1,b'==b]) P ⟨dst,op,ty,pos,after,some (g,b)⟩ T S xs rS v []:=by exact FO)(hd:Ao dst nt=true:=by rfl)(hos:Da xs=true:=by exact rfl):(RGo P nt ops l Q rest (acc++[⟨⟨dst,op,ty,pos,after,some (g,b)⟩,t::BZ xs,rS.map (·.1),(.opt c1 (.opt (b'==b) v)),[]⟩]) ⟨A6 T dst (.opt c1 (.opt (b'==b) v)),S⟩)->RGo P nt ops l Q (⟨dst,op,ty,pos,after,some (g,b)⟩::rest) acc ⟨T,S⟩:=λk=>TF (k:=k) (ht:=ht) (hv:=hv) (h:=h) (hd:=hd) (hos:=hos)
theorem Rh{c1 c2:Bool}{g:Nat}{b b':Bool}{t:Nat}(ht:(ops[g]?).bind (·.dst)=some t:=by rfl)(hv:BR T t=some (.opt c1 (.opt c2 (.prim (.bool b')))):=by rfl)(h:Stp (some [c1,c2,b'==b]) P ⟨dst,op,ty,pos,after,some (g,b)⟩ T S xs rS v []:=by exact FO)(hd:Ao dst nt=true:=by rfl)(hos:Da xs=true:=by exact rfl):(RGo P nt ops l Q rest (acc++[⟨⟨dst,op,ty,pos,after,some (g,b)⟩,t::BZ xs,rS.map (·.1),(.opt c1 (.opt c2 (.opt (b'==b) v))),[]⟩]) ⟨A6 T dst (.opt c1 (.opt c2 (.opt (b'==b) v))),S⟩)->RGo P nt ops l Q (⟨dst,op,ty,pos,after,some (g,b)⟩::rest) acc ⟨T,S⟩:=λk=>TE (k:=k) (ht:=ht) (hv:=hv) (h:=h) (hd:=hd) (hos:=hos)
theorem I2(h:Stp none P ⟨dst,op,ty,pos,after,g⟩ T S xs rS v wS:=by first|(apply GB;exact W.allocN (by exact AY) (by first|exact .inl rfl|exact .inr rfl) (by first|(dsimp only[zAV,List.map];try exact rfl)|exact rfl) (by exact rfl))|(apply Stp.g_box;exact W.box rfl (by exact AY) rfl))(hd:Ao dst nt=true:=by rfl)(hg:Grd ops T g ts:=by first|exact .none|exact .met rfl rfl (by first|rfl|assumption)):(RGo P nt ops l Q rest (acc++[⟨⟨dst,op,ty,pos,after,g⟩,ts++BZ xs,rS.map (·.1),v,wS⟩]) ⟨A6 T dst v,A5 S wS⟩)->RGo P nt ops l Q (⟨dst,op,ty,pos,after,g⟩::rest) acc ⟨T,S⟩:=λk=>Ui (k:=k) (h:=h) (hd:=hd) (hg:=hg)
end
section
variable {P:Program}{nt:Nat}{ops:Array Oper}{Q:Exit->St->Prop}{rest:List Oper}{T:List (Nat×AV)}{S:List AK}{xs:List (Operand×AV)}{rS wS:List (Nat×AK)}{v:AV}{op:Op}{ty:TypeId}{pos:String}{after:Array Edge}{dst:Option Tmp}{t t2 t' te:TypeId}{x y z:Operand}{st:St}{c:Code}{l ls:List AV}{sz X p q:Nat}
theorem O7{m by_ Y:Nat}[TRo P t te sz by_](hx:Rd none T x (.sl X 0 m):=by rfl)(hy:Rd none T y (.lst false t' sz ls):=by rfl)(hSq:At S q (Y,.gone):=by exact AY)(hSp:At S p (X,.row te sz l):=by exact AY)(hn:m=l.length:=by first|rfl|assumption|omega|(simp;omega)|simp[*])(hb:(m+ls.length)*by_<=140737488355328:=by first|assumption|exact UY (by first|assumption|omega|(simp;omega)) (by decide)|omega|(simp;omega))(hqp:q≠p:=by decide)(hby:0<by_:=by decide)(hd:Ao dst nt=true:=by rfl):(RGo P nt ops l0 Q rest (acc++[⟨⟨dst,.call ⟨.builtin .append,#[x,y],#[t,t]⟩,ty,pos,after,none⟩,BZ [(x,.sl X 0 m),(y,.lst false t' sz ls)],[q,p],.sl Y 0 (m+ls.length),[(q,(X,.used)),(p,(Y,.row te sz (l++ls)))]⟩]) ⟨A6 T dst (.sl Y 0 (m+ls.length)),A5 S [(q,(X,.used)),(p,(Y,.row te sz (l++ls)))]⟩)->RGo P nt ops l0 Q (⟨dst,.call ⟨.builtin .append,#[x,y],#[t,t]⟩,ty,pos,after,none⟩::rest) acc ⟨T,S⟩:=λk=>Uk (k:=k) (hx:=hx) (hy:=hy) (hSq:=hSq) (hSp:=hSp) (hn:=hn) (hb:=hb) (hqp:=hqp) (hby:=hby) (hd:=hd)
end
section
variable {P:Program}{nt:Nat}{ops:Array Oper}{Q:Exit->St->Prop}{rest:List Oper}{T:List (Nat×AV)}{S:List AK}{xs:List (Operand×AV)}{rS wS:List (Nat×AK)}{v:AV}{op:Op}{ty:TypeId}{pos:String}{after:Array Edge}{dst:Option Tmp}{t t2 t' te:TypeId}{x y z:Operand}{g:Option (Nat×Bool)}{st:St}{c:Code}{l:List Oper}{acc:List Eff}{B:Prop}{gd:Nat×Bool}
theorem U0(k:B->AOps ro P nt ops Q (⟨dst,op,ty,pos,after,none⟩::rest) st):B->AOps ro P nt ops Q (⟨dst,op,ty,pos,after,none⟩::rest) st:=k
theorem Uz(k:B->AOps ro P nt ops Q (⟨dst,op,ty,pos,after,some gd⟩::rest) st):B->AOps ro P nt ops Q (⟨dst,op,ty,pos,after,some gd⟩::rest) st:=k
theorem Nx(k:B->AOps ro P nt ops Q (⟨dst,.store t x y,ty,pos,after,g⟩::rest) st):B->AOps ro P nt ops Q (⟨dst,.store t x y,ty,pos,after,g⟩::rest) st:=k
theorem Ny(k:B->AOps ro P nt ops Q (⟨dst,.alloc t,ty,pos,after,g⟩::rest) st):B->AOps ro P nt ops Q (⟨dst,.alloc t,ty,pos,after,g⟩::rest) st:=k
theorem QB(k:B->AOps ro P nt ops Q (⟨dst,.box t x,ty,pos,after,g⟩::rest) st):B->AOps ro P nt ops Q (⟨dst,.box t x,ty,pos,after,g⟩::rest) st:=k
theorem MP(k:B->AOps ro P nt ops Q (⟨dst,.call ⟨.builtin .append,#[x,y],#[t,t]⟩,ty,pos,after,g⟩::rest) st):B->AOps ro P nt ops Q (⟨dst,.call ⟨.builtin .append,#[x,y],#[t,t]⟩,ty,pos,after,g⟩::rest) st:=k
theorem Vk(k:B->RGo P nt ops l Q (⟨dst,op,ty,pos,after,none⟩::rest) acc st):B->RGo P nt ops l Q (⟨dst,op,ty,pos,after,none⟩::rest) acc st:=k
theorem Vj(k:B->RGo P nt ops l Q (⟨dst,op,ty,pos,after,some gd⟩::rest) acc st):B->RGo P nt ops l Q (⟨dst,op,ty,pos,after,some gd⟩::rest) acc st:=k
theorem Ju(k:B->RGo P nt ops l Q (⟨dst,.store t x y,ty,pos,after,g⟩::rest) acc st):B->RGo P nt ops l Q (⟨dst,.store t x y,ty,pos,after,g⟩::rest) acc st:=k
theorem Jv(k:B->RGo P nt ops l Q (⟨dst,.alloc t,ty,pos,after,g⟩::rest) acc st):B->RGo P nt ops l Q (⟨dst,.alloc t,ty,pos,after,g⟩::rest) acc st:=k
theorem M9(k:B->RGo P nt ops l Q (⟨dst,.box t x,ty,pos,after,g⟩::rest) acc st):B->RGo P nt ops l Q (⟨dst,.box t x,ty,pos,after,g⟩::rest) acc st:=k
theorem I1(k:B->RGo P nt ops l Q (⟨dst,.call ⟨.builtin .append,#[x,y],#[t,t]⟩,ty,pos,after,g⟩::rest) acc st):B->RGo P nt ops l Q (⟨dst,.call ⟨.builtin .append,#[x,y],#[t,t]⟩,ty,pos,after,g⟩::rest) acc st:=k
end
theorem WO_{A B:Prop}(h:B->A:=by first|(apply U0;first|(apply Nx;exact Rq)|(apply Ny;exact NG)|(apply QB;exact NG)|(apply MP;exact Rv)|exact TU)|(apply Uz;first|exact Rp|exact Ru|exact QE|exact QD|exact QC)):B->A:=h
theorem WO{A B:Prop}(k:B)(h:B->A:=by exact WO_):A:=h k
theorem WF_{A B:Prop}(h:B->A:=by first|exact D0|exact D4|exact AWP.block|exact TN|exact DS|exact U5|exact M6|exact U6|exact Sd rfl):B->A:=h
theorem WF{A B:Prop}(k:B)(h:B->A:=by exact WF_):A:=h k
theorem WN{A B:Prop}(k:B)(h:B->A:=by first|exact DS|exact U5|exact M6|exact U6|exact Sd rfl):A:=h k
theorem WK{A B:Prop}(k:B)(h:B->A:=by first|exact WO_|exact AOps.nil|exact WF_|exact E8):A:=h k
theorem RK{A B:Prop}(k:B)(h:B->A:=by first|(apply Vk;first|(apply Ju;exact O6)|(apply I1;exact O7)|(apply Jv;exact I2)|(apply M9;exact I2)|exact Qd)|(apply Vj;first|(apply Ju;exact O6)|(apply I1;exact O7)|(apply Jv;exact I2)|(apply M9;exact I2)|exact Qd|exact TH|exact Rj|exact Ri|exact Rh)):A:=h k
theorem RG{A B:Prop}(k:B)(h:B->A:=by(intro b;(repeat refine WF ?_);refine E8 ?_;exact b)):A:=h k
theorem RU{A B:Prop}(k:B)(h:B->A:=by(intro b;(repeat refine WF ?_);refine AWP.region_run (by kernel_rfl) (by kernel_rfl) ?_;exact b)):A:=h k
theorem Ai{p:Nat->Prop}(h:∀X,p X):All p:=⟨h⟩
theorem Ay{p:Nat->Prop}(h:∀X,p X):AllY p:=⟨h⟩
theorem NL{A B:Prop}(k:B)(h:B->A:=by(intro b;refine AOps.nil ?_;(repeat refine WN ?_);exact b)):A:=h k
theorem FL{A B:Prop}(k:B)(h:B->A:=by(intro b;(repeat first|refine AOps.nil ?_|refine WF ?_);exact b)):A:=h k
theorem RT{A B:Prop}(k:B)(h:B->A:=by(intro b;refine Un ?_;(repeat (first|refine V7 ?_|refine Re ?_));refine VI ?_;exact b)):A:=h k
end
section
set_option linter.defProp false
structure Hd(B:Prop):Prop where
 h:B
theorem KK{A B:Prop}(k:B)(h:Hd B->A:=by(intro b;(repeat refine WK ?_);exact b.h)):A:=h ⟨k⟩
theorem KO{A B:Prop}(k:B)(h:Hd B->A:=by(intro b;(repeat refine WO ?_);exact b.h)):A:=h ⟨k⟩
theorem KR{A B:Prop}(k:B)(h:Hd B->A:=by(intro b;(repeat refine RK ?_);exact b.h)):A:=h ⟨k⟩
theorem R1{A B:Prop}(k:B)(h:Hd B->A:=by(intro b;refine RG ?_;(repeat refine WO ?_);refine NL ?_;exact b.h)):A:=h ⟨k⟩
theorem Sp{f:FuncId}{fn:Func}{args:List AV}{Q:AV->List AK->Prop}(hf:P.funcs[f]?=some fn)(h:∀Sf,AWP none P nt c (Ty P res Sf Q) ⟨Rb 0 args,S++Sf⟩)(hb:fn.body=some c:=by rfl)(hfn:MD P f=true:=by kernel_rfl)(hnt:fn.ntmps=nt:=by rfl)(hres:fn.results.toList=res:=by rfl)(hn:Nat.ble args.length nt=true:=by rfl):Spec P f args S Q:=Spec.of hf hb hfn hnt hres hn h
theorem nm.{u}{α:Sort u}(a:α):∃x,a=x:=⟨_,rfl⟩
def As:=@_root_.decide_eq_true_eq
def Ag:=@_root_.List.getElem?_eq_getElem
def Aq:=@_root_.decide_eq_false_iff_not
def AD:=@_root_.List.length_map
def Ax:=@_root_.List.length_append
def BC:=@_root_.List.append_assoc
def WG:=@_root_.List.getElem?_eq_some_iff
def Am:=@_root_.List.getElem?_map
def Bd:=@_root_.decide_eq_false
def Br:=@_root_.decide_eq_true
def FH:=@_root_.List.mem_append
def DO:=@_root_.List.mem_singleton
def Cq:=@_root_.List.mem_cons
def BG:=@_root_.List.getElem_mem
def BA:=@_root_.List.length_take
def DE:=@_root_.List.drop_eq_getElem_cons
def Bc:=@_root_.List.mem_of_getElem?
def D2:=@_root_.List.getD_eq_getElem?_getD
def DX:=@_root_.List.nil_append
def EX:=@_root_.List.cons_append
def Bb:=@_root_.List.length_drop
def EK:=@_root_.List.length_cons
end
section
variable {ro:Option Nat}
open Go.RowKit
def Yld(P:Program)(y:Value)(xs:List (List AV))(J:Nat->List AK->Prop)(Jx:List AK->Prop):Prop:=
 ∃l,y= .func (.yield l) #[] #[]/\∀i vs,xs[i]?=some vs->∀Sl,J i Sl->∀(Si:List AK) (m:Mem) (N:Nat) (Z:Zs) (us:List Value),Z.map (·.1)=Si++Sl->Good m m N Z []->VTs m vs us []->
  ∃f tmps assign body,(Instr.yield l us.toArray).run P m.w= .ok (.round l f tmps assign body) m.w/\RoundIn (FW none) 0 P l f tmps assign body m.w λe w'=>
   ∃b Sl' m' N' Z',e= .returned (.bool b)/\m'.w=w' /\Z'.map (·.1)=Si++Sl' /\Good m m' N' Z' []/\(b=true->J (i+1) Sl')/\(b=false->Jx Sl')
def Itr(P:Program)(f:FuncId)(cap:List AV)(xs:List (List AV)):Prop:=
 MD P f=true/\∀y J Jx,Yld P y xs J Jx->∀Sl,J 0 Sl->Spec P f (.prim y::cap) Sl λ_ S'=>J xs.length S' \/Jx S'
theorem Bv{α β:Type}{f:α->β}:∀{Z:List α} {A B:List β},Z.map f=A++B->∃ZA ZB,Z=ZA++ZB/\ZA.map f=A/\ZB.map f=B
 |Z,[],B,h=>⟨[],Z,rfl,rfl,h⟩
 |[],a::A,B,h=>by simp at h
 |z::Z,a::A,B,h=>by
  simp only[AR,G6,CP]at h;obtain⟨ZA,ZB,e,h1,h2⟩:=Bv h.2;exact⟨z::ZA,ZB,by simp[e],by simp[h.1,h1],h2⟩
abbrev YO:=Nat->List AV×List AK
def Ub(P:Program)(y:Value)(xs:List YO)(J:Nat->List AK->Prop)(Jx:List AK->Prop):Prop:=
 ∃l,y= .func (.yield l) #[] #[]/\∀i vs,xs[i]?=some vs->∀C Sl,J i Sl->∀(Si:List AK) (m:Mem) (N:Nat) (Z:Zs) (us:List Value),Z.map (·.1)=Si++((vs C).2++Sl)->Good m m N Z []->VTs m (vs C).1 us []->
  ∃f tmps assign body,(Instr.yield l us.toArray).run P m.w= .ok (.round l f tmps assign body) m.w/\RoundIn (FW none) 0 P l f tmps assign body m.w λe w'=>
   ∃b Sl' m' N' Z',e= .returned (.bool b)/\m'.w=w' /\Z'.map (·.1)=Si++Sl' /\Good m m' N' Z' []/\(b=true->J (i+1) Sl')/\(b=false->Jx Sl')
def WM(P:Program)(f:FuncId)(cap:List AV)(xs:List YO):Prop:=
 MD P f=true/\∀y J Jx,Ub P y xs J Jx->∀Sl,J 0 Sl->Spec P f (.prim y::cap) Sl λ_ S'=>J xs.length S' \/Jx S'
section
variable {P:Program}{nt:Nat}{ops:Array Oper}{Q:Exit->St->Prop}{rest:List Oper}{T:List (Nat×AV)}{S Si Sl Sf:List AK}{y:Value}{xs:List YO}{J:Nat->List AK->Prop}{Jx:List AK->Prop}
variable {dst:Option Tmp}{ty:TypeId}{pos:String}{after:Array Edge}{x:Operand}{ys:List (Operand×AV)}{ats:Array TypeId}{i:Nat}
theorem PA{C:Nat}{x0:YO}{ob:List AK}(hY:Ub P y xs J Jx)(hJ:J i Sl)(hi:xs[i]?=some x0)(hx1:(x0 C).1=ys.map (·.2))(hx2:(x0 C).2=ob)(hx:ev T x=some (.prim y))(has:Evs T ys)(ht:BT ys=true)(hd:Ao dst nt=true)
  (kt:∀Sl',J (i+1) Sl' ->AOps ro P nt ops Q rest ⟨A6 T dst (.prim (.bool true)),Si++(Sl'++Sf)⟩) (kf:∀Sl',Jx Sl' ->AOps ro P nt ops Q rest ⟨A6 T dst (.prim (.bool false)),Si++(Sl'++Sf)⟩):
  AOps ro P nt ops Q (⟨dst,.call ⟨.value x,(ys.map (·.1)).toArray,ats⟩,ty,pos,after,none⟩::rest) ⟨T,Si++((ob++Sl)++Sf)⟩:=by
 rintro m0 a w ⟨m,N,Z,rfl,h2,h3,h4⟩;refine FX rfl λK hK=>?_
 obtain⟨l,rfl,hY⟩:=hY;have hyv:=(h4.ev hx).prim;obtain⟨Zi,Zr,rfl,hzi,hzr⟩:=Bv (A:=Si) (B:=(ob++Sl)++Sf) h2;obtain⟨Zl,Zf,rfl,hzl,hzf⟩:=Bv hzr
 have hp:(Zi++(Zl++Zf)).Perm ((Zi++Zf)++Zl):=by
  rw[AF];exact BO _ Aw
 have hus:VTs m (ys.map (·.2)) (ys.map λq=>a.eval q.1) []:=FK (DU ht) λq hq=>h4.ev (has.all q hq)
 obtain⟨f,tmps,assign,body,hrun,hR⟩:=hY i _ hi C Sl hJ (Si++Sf) m N _ _ (by simp[hzi,hzf,hzl,hx2]) (h3.perm hp).self (by rw[hx1];exact hus);refine⟨λ_ _=>C9,?_⟩
 have hexec:(Oper.semAt (FW ro).round a.eval ⟨dst,.call ⟨.value x,(ys.map (·.1)).toArray,ats⟩,ty,pos,after,none⟩).run P m.w= .ok (.round l f tmps assign body) m.w:=by
  rw[Rk _ _ _ (by simp)];simp only[execOp,resolve,hyv,Deferred.ofValue,invoke,AI,AG,AA];rw[show(#[]:Array Value)++Array.map a.eval (ys.map (·.1)).toArray=(ys.map λq=>a.eval q.1).toArray from by simp[Cp]];exact hrun
 rw[hexec];refine⟨λh=>(by simp[FW,Fence.wide]at h),RoundIn.mono (F:=FW ro) (n:=0-1) hR λe w' he=>?_⟩;obtain⟨b,Sl',m',N',Z',rfl,rfl,hm,G',kT,kF⟩:=he;obtain⟨Za,Zl',rfl,hza,hzl'⟩:=Bv hm;obtain⟨Zi',Zf',rfl,hzi',hzf'⟩:=Bv hza
 have hp':((Zi'++Zf')++Zl').Perm (Zi'++(Zl'++Zf')):=by
  rw[AF];exact BO _ Aw
 refine hK _ _ ?_
 have hrel:Rel nt m0 ⟨A6 T dst (.prim (.bool b)),Si++(Sl'++Sf)⟩ (a.put dst (.bool b)) m'.w:=
  ⟨m',N',_,rfl,by simp[hzi',hzf',hzl'],(h3.after G').perm hp',(h4.mono G'.le).put (DM hd) (Cc _)⟩
 cases b with
 |true=>exact kt Sl' (kT rfl) m0 _ _ hrel
 |false=>exact kf Sl' (kF rfl) m0 _ _ hrel
end
theorem Yld.o{y:Value}{xs:List (List AV)}{J:Nat->List AK->Prop}{Jx:List AK->Prop}(h:Yld P y xs J Jx):Ub P y (xs.map λvs _=>(vs,[])) J Jx:=by
 obtain⟨l,e,h⟩:=h;refine⟨l,e,λi vs hi C Sl hJ Si m N Z us hZ G hus=>?_⟩;rw[Cn]at hi;obtain⟨v,hv,rfl⟩:=WI.1 hi;exact h i v hv Sl hJ Si m N Z us hZ G hus
theorem Itr.o{f:FuncId}{xs:List (List AV)}(h:Itr P f cap xs):WM P f cap (xs.map λvs _=>(vs,[])):=by
 refine⟨h.1,λy J Jx hY Sl hJ=>?_⟩;obtain⟨l,e,hY⟩:=hY;have:=h.2 y J Jx ⟨l,e,λi vs hi Sl hJ Si m N Z us hZ G hus=>hY i (λ_=>(vs,[])) (by rw[Cn,hi];rfl) 0 Sl hJ Si m N Z us hZ G hus⟩ Sl hJ;rw[List.length_map];exact this
section
variable {P:Program}{nt:Nat}{ops:Array Oper}{Q:Exit->St->Prop}{rest:List Oper}{T:List (Nat×AV)}{S Si Sl Sf:List AK}{y:Value}{xs:List (List AV)}{J:Nat->List AK->Prop}{Jx:List AK->Prop}
variable {dst:Option Tmp}{ty:TypeId}{pos:String}{after:Array Edge}{x:Operand}{ys:List (Operand×AV)}{ats:Array TypeId}{i:Nat}
theorem AOps.yield(hY:Yld P y xs J Jx)(hJ:J i Sl)(hi:xs[i]?=some (ys.map (·.2)))(hx:ev T x=some (.prim y))(has:Evs T ys)(ht:BT ys=true)(hd:Ao dst nt=true)
  (kt:∀Sl',J (i+1) Sl' ->AOps ro P nt ops Q rest ⟨A6 T dst (.prim (.bool true)),Si++(Sl'++Sf)⟩) (kf:∀Sl',Jx Sl' ->AOps ro P nt ops Q rest ⟨A6 T dst (.prim (.bool false)),Si++(Sl'++Sf)⟩):
  AOps ro P nt ops Q (⟨dst,.call ⟨.value x,(ys.map (·.1)).toArray,ats⟩,ty,pos,after,none⟩::rest) ⟨T,Si++(Sl++Sf)⟩:=
 PA (C:=0) (x0:=λ_=>(ys.map (·.2),[])) (ob:=[]) hY.o hJ (by rw[Cn,hi];rfl) rfl rfl hx has ht hd kt kf
theorem Good.newRaw{m0 m:Mem}{N:Nat}{R:Zs}(G:Good m0 m N R ex)(o:Obj)(m':Mem)(hm':m'=⟨m.μ,λy=>m.U y\/y=N,m.w.alloc o,m.F⟩):
  Good m0 m' (N+1) (((N,.raw m.w.heap.size o),[m.w.heap.size])::R) ex/\m.Le m':=by
 subst hm';have hle:m.Le ⟨m.μ,λy=>m.U y\/y=N,m.w.alloc o,m.F⟩:=⟨λy h=>.inl h,λ_ _ _ h=>h,λb hb=>⟨hb,Dz _ _ _ (G.frz b hb)⟩⟩;refine⟨Good.swap (zs:=[]) (zs':=[((N,.raw m.w.heap.size o),[m.w.heap.size])]) (R:=R) (ex:=ex) (ex':=ex) G hle (by omega) (λy _ _=>rfl) (λb hb _ _=>Dz _ _ _ hb) ?_ ?_ ?_ ?_ ?_ ?_ ?_ rfl rfl rfl (by simp),hle⟩
 ·intro z hz
  simp only[AS]at hz;subst hz;exact⟨rfl,.inr rfl,World.alloc_heap_new _ _⟩
 ·refine AL.2 ⟨by simp[Zs.own],(AL.1 G.own).2.1,λb hb c hc e=>?_⟩
  simp only[Zs.own,Bo,G5,BL,AS]at hb;have:=(G.blk c (by simp[hc])).1;omega
 ·intro b hb
  simp only[Zs.own,Bo,G5,BL,AN,AS]at hb;rcases hb with rfl|hb
  ·exact⟨by simp,λh=>HA _ (G.frz _ h),.inr (.inr (AP _))⟩
  ·have:=G.blk b (by simp[hb])
   exact⟨by have:=this.1;simp;omega,this.2,.inr (.inl hb)⟩
 ·intro b hb
  exact⟨by have:=G.frz b hb;simp;omega,.inl hb⟩
 ·simp[Zs.keys]
 ·intro y hy
  simp only[Zs.keys,AR,Bj,AS]at hy;subst hy;exact⟨by omega,.inr (AP _)⟩
 ·intro y hy
  rcases hy with hy|rfl
  ·have:=G.usedN y hy;exact⟨by omega,.inl hy⟩
  ·exact⟨by omega,.inr (.inr (AP _))⟩
theorem Good.newFrz{m0 m:Mem}{N:Nat}{R:Zs}(G:Good m0 m N R ex)(o:Obj)(m':Mem)(hm':m'=⟨m.μ,m.U,m.w.alloc o,λb=>m.F b\/b=m.w.heap.size⟩):
  Good m0 m' N R ex/\m.Le m':=by
 subst hm';have hle:m.Le ⟨m.μ,m.U,m.w.alloc o,λb=>m.F b\/b=m.w.heap.size⟩:=⟨λy h=>h,λ_ _ _ h=>h,λb hb=>⟨.inl hb,Dz _ _ _ (G.frz b hb)⟩⟩;refine⟨Good.swap (zs:=[]) (zs':=[]) (R:=R) (ex:=ex) (ex':=ex) G hle (by omega) (λy _ _=>rfl) (λb hb _ _=>Dz _ _ _ hb) (λz hz=>by cases hz) ?_ ?_ ?_ (by simp[Zs.keys]) (λy hy=>by simp[Zs.keys]at hy) ?_ rfl rfl rfl (by simp),hle⟩
 ·simpa[Zs.own]using(AL.1 G.own).2.1
 ·intro b hb
  simp only[Zs.own,G5,EN]at hb;have:=G.blk b (by simp[hb]);refine⟨by have:=this.1;simp;omega,?_,.inr (.inl hb)⟩;rintro(h|h)
  ·exact this.2 h
  ·have:=this.1;omega
 ·intro b hb
  rcases hb with hb|rfl
  ·exact⟨by have:=G.frz b hb;simp;omega,.inl hb⟩
  ·exact⟨by simp,.inr (.inr (.inr (AP _)))⟩
 ·intro y hy
  exact⟨G.usedN y hy,.inl hy⟩
theorem Good.setRaw{m0 m:Mem}{N X b:Nat}{o:Obj}{R:Zs}(G:Good m0 m N (((X,.raw b o),bs)::R) ex)(o':Obj)(m':Mem)(hm':m'={m with w:=m.w.putObj b o'}):
  Good m0 m' N (((X,.raw b o'),bs)::R) ex/\m.Le m':=by
 subst hm';obtain⟨rfl,hU,hb⟩:=G.obj _ (A4 ..);have hbk:=G.blk b (by simp[Zs.own]);have hle:m.Le {m with w:=m.w.putObj b o'}:=⟨λy h=>h,λ_ _ _ h=>h,λc hc=>⟨hc,DI (by rintro rfl;exact hbk.2 hc)⟩⟩;have own:=G.own;refine⟨Good.swap (zs:=[((X,.raw b o),[b])]) (zs':=[((X,.raw b o'),[b])]) (R:=R) (ex:=ex) (ex':=ex) G hle (by omega) (λy _ _=>rfl) (λc _ hc _=>DI (by simpa[Zs.own]using hc)) ?_ ?_ ?_ ?_ (by simp[Zs.keys]) ?_ ?_ rfl rfl rfl (by simp),hle⟩
 ·intro z hz
  simp only[AS]at hz;subst hz;exact⟨rfl,hU,World.putObj_heap_same hbk.1⟩
 ·have hp:(Zs.own (((X,AO.raw b o),[b])::R)++ex).Perm (R.own++([b]++ex)):=by
   rw[CF,AF];refine List.perm_append_comm.trans ?_;rw[AF];exact BO _ Aw
  have:=(AL.1 (hp.nodup_iff.1 own)).2.1;simpa[Zs.own]using this
 ·intro c hc
  simp only[Zs.own,Bo,G5,BL,AN,AS]at hc;have hk:=G.blk c (by simp only[CF,AN,AS];rcases hc with h|h<;>simp[h]);exact⟨by simpa using hk.1,hk.2,by rcases hc with h|h<;>simp[Zs.own,h]⟩
 ·intro c hc
  exact⟨by simpa using G.frz c hc,.inl hc⟩
 ·intro y hy
  simp only[Zs.keys,AR,Bj,AS]at hy⊢;subst hy;exact⟨G.keyN y (by simp[Zs.keys]),.inl rfl⟩
 ·intro y hy
  exact⟨G.usedN y hy,.inl hy⟩
theorem Good.note{m0 m:Mem}{N:Nat}{R:Zs}(G:Good m0 m N R ex)(K:AV->Value->Prop)(hK:∀v u,K v u->VV m v u [])(m':Mem)(hm':m'={m with U:=λy=>m.U y\/y=N}):
  Good m0 m' (N+1) (((N,.tv K),[])::R) ex/\m.Le m':=by
 subst hm';have hle:m.Le {m with U:=λy=>m.U y\/y=N}:=⟨λy h=>.inl h,λ_ _ _ h=>h,λb hb=>⟨hb,rfl⟩⟩;refine⟨Good.one (zs:=[]) (zs':=[((N,.tv K),[])]) (R:=R) G _ (N+1) rfl rfl hle (by omega) (λy _ hy=>rfl) ?_ rfl (by simp[Zs.keys]) ?_ ?_,hle⟩
 ·intro z hz
  simp only[AS]at hz;subst hz;exact⟨rfl,.inr rfl,λv u h=>(hK v u h).mono hle (by simp)⟩
 ·intro y hy
  simp only[Zs.keys,AR,Bj,AS]at hy;subst hy;exact⟨by omega,.inr (AP _)⟩
 ·intro y hy
  rcases hy with hy|rfl
  ·have:=G.usedN y hy;exact⟨by omega,.inl hy⟩
  ·exact⟨by omega,.inr (.inr (AP _))⟩
end
section
variable {P:Program}{nt:Nat}{m0 m:Mem}
theorem Rel.setRaw{pre G:List AK}{X l:Nat}{o o':Obj}{w:World}(h:Rel nt m0 ⟨T,pre++(X,.raw l o)::G⟩ a w):w.heap[l]?=some o/\Rel nt m0 ⟨T,pre++(X,.raw l o')::G⟩ a (w.putObj l o'):=by
 obtain⟨m,N,Z,rfl,h2,h3,h4⟩:=h;obtain⟨Zp,Zr,rfl,hzp,hzr⟩:=Bv (A:=pre) (B:=(X,.raw l o)::G) h2;cases Zr with
 |nil=>simp at hzr
 |cons z Zg=>
  simp only[AR,CP]at hzr;obtain⟨⟨x,ob⟩,bs⟩:=z;obtain⟨hz,hzg⟩:=hzr;simp only at hz;injection hz with hz1 hz2
  subst hz1 hz2;have G1:=h3.perm List.perm_middle;have hO:=G1.obj _ (A4 ..);obtain⟨G2,hle⟩:=G1.setRaw o' _ rfl;exact⟨hO.2.2,_,N,Zp++((x,.raw l o'),bs)::Zg,rfl,by simp[hzp,hzg],G2.perm List.perm_middle.symm,h4.mono hle⟩
def Ry:List (Nat×AV)->List Nat->List AV->List (Nat×AV)
 |T,d::ds,v::vs=>Ry ((d,v)::T) ds vs
 |T,_,_=>T
theorem TRel.zip:∀{ps:List Nat} {vs:List AV} {us:List Value} {T:List (Nat×AV)} {tm:Array Value},TRel m0 m nt T {tmps:=tm,defers:=[]}->VTs m vs us []->(∀d∈ps,d<nt)->TRel m0 m nt (Ry T ps vs) {tmps:=(ps.zip us).foldl (λt q=>t.setIfInBounds q.1 q.2) tm,defers:=[]}
 |[],vs,us,T,tm,h,hv,hd=>by cases vs<;>exact h
 |d::ps,[],us,T,tm,h,hv,hd=>by obtain⟨rfl,_⟩:=hv;exact h
 |d::ps,v::vs,us,T,tm,h,hv,hd=>by
  obtain⟨u,us',b1,b2,rfl,e,h1,h2⟩:=(B8 hv.ntup).1 hv;obtain⟨rfl,rfl⟩:b1=[]/\b2=[]:=by simpa using e.symm
  have h3:=h.put (dst:=some d) (λe he=>by cases he;exact hd d (by simp)) h1;exact TRel.zip (T:=(d,v)::T) h3 h2 λd hd'=>hd d (by simp[hd'])
def WD(F1 F2:List AK)(K:St->Prop):Exit->St->Prop
 |.normal,st=>∃pre,(pre++F1).Sublist st.S/\K ⟨st.T,pre++F2⟩
 |_,_=>False
def Vx(P:Program)(nt:Nat)(Q:Exit->St->Prop)(T:List (Nat×AV))(Sf:List AK)(nxt:List AK->Prop)(F:List AK):Exit->St->Prop
 |.normal,st=>∃pre,(pre++F).Sublist st.S/\nxt pre
 |.ret,st=>∃pre,(pre++F).Sublist st.S/\AWP none P nt .ret Q ⟨T,pre++Sf⟩
 |.exit id,st=>∃pre,(pre++F).Sublist st.S/\AWP none P nt (.exit id) Q ⟨T,pre++Sf⟩
 |_,_=>False
theorem P8{g:Operand}{ps:Array Tmp}{assign body:Code}{S Sf:List AK}{gf:FuncId}{xs:List YO}(hI:WM P gf cap xs)(inv:β->List AK)(R:Nat->β->Prop)(b0:β)(hR:R 0 b0)
  (hround:∀(i:Nat) vs C b l F1 F2,xs[i]?=some vs->R i b->AWP (some l) P nt assign (WD F1 F2 λst=>AWP (some l) P nt body (Vx P nt Q T Sf (λpre=>∃b',R (i+1) b' /\pre=inv b') F2) st) ⟨Ry T ps.toList (vs C).1,(vs C).2++(inv b++F1)⟩)
  (hdone:∀b,R xs.length b->Q .normal ⟨T,inv b++Sf⟩)
  (hg:ev T g=some (.fn gf cap)) (hs:DG cap=true) (hps:ps.toList.all (Nat.blt · nt)=true) (hlen:∀vs∈xs,∀C,(vs C).1.length=ps.size) (hS:(inv b0++Sf).Sublist S):AWP none P nt (.rangeFunc g ps assign body) Q ⟨T,S⟩:=by
 intro m0 a w hr;obtain⟨m,N,Z,rfl,h2,h3,h4⟩:=hr.sub hS;obtain⟨cs,e1,hcap⟩:=h4.ev hg;injection e1 with e1
 refine wpIn_rangeFunc ?_;intro fn _;obtain⟨rec,hrec⟩:∃rec:LoopState->Option Code->Loop,rec=λst pe=>{state:=st,pending:=pe,fn,tmps:=a.tmps,params:=ps,assign,body,defers:=m.w.heap.size}:=⟨_,rfl⟩
 obtain⟨G1,hle1⟩:=h3.newFrz (.deferred (some [])) _ rfl;obtain⟨G2,hle2⟩:=G1.newRaw (.loop (rec .ready none)) _ rfl;have hle12:=hle1.trans hle2;obtain⟨m2,hm2⟩:∃m2:Mem,(⟨m.μ,λy=>m.U y\/y=N,(m.w.alloc (.deferred (some []))).alloc (.loop (rec .ready none)),λb=>m.F b\/b=m.w.heap.size⟩:Mem)=m2:=⟨_,rfl⟩;have hw2:(m.w.alloc (.deferred (some []))).alloc (.loop (rec .ready none))=m2.w:=by rw[<-hm2]
 have G2':Good m0 m2 (N+1) (((N,.raw (m.w.heap.size+1) (.loop (rec .ready none))),[m.w.heap.size+1])::Z) []:=by
  rw[<-hm2];have:=G2;simp only[World.size_alloc]at this;exact this
 have hle:m.Le m2:=by rw[<-hm2];exact hle12
 have hV2:∀d v,BR T d=some v->∃u,a.tmps[d]?=some u/\VV m2 v u []:=(h4.mono hle).2.2;obtain⟨K,hK⟩:∃K:AV->Value->Prop,K=λv u=>∃d,BR T d=some v/\a.tmps[d]?=some u:=⟨_,rfl⟩
 obtain⟨G3,hle3⟩:=G2'.note K (λv u h=>by
  rw[hK]at h;obtain⟨d,h5,h6⟩:=h;obtain⟨u',h7,h8⟩:=hV2 d v h5;rw[h6]at h7;injection h7 with h7
  rw[h7];exact h8) _ rfl
 obtain⟨m3,hm3⟩:∃m3:Mem,{m2 with U:=λy=>m2.U y\/y=N+1}=m3:=⟨_,rfl⟩;rw[hm3]at G3 hle3;have hw3:m3.w=m2.w:=by rw[<-hm3]
 have h0F:m3.F m.w.heap.size:=by rw[<-hm3,<-hm2];exact .inr rfl
 have h0D:m3.w.heap[m.w.heap.size]?=some (.deferred (some [])):=by
  rw[hw3,<-hw2];exact(Dz _ _ _ (by simp)).trans (World.alloc_heap_new m.w _)
 have hle03:m.Le m3:=hle.trans hle3;obtain⟨l,hl⟩:=nm (m.w.heap.size+1);rw[hl]at G3;clear G1 G2 G2' hle1 hle2 hle12;obtain⟨Zi,Zf,rfl,hzi,hzf⟩:=Bv (A:=inv b0) (B:=Sf) h2
 have hsl:∀(A B C D:List (AK×List Nat)),(A++(B++(C++D))).Perm (C++(B++(A++D))):=λA B C D=>by
  have p1:(A++(B++(C++D))).Perm ((C++(B++A))++D):=by
   rw[<-AF,<-AF];refine CX _ ?_;refine List.perm_append_comm.trans (BO _ Aw)
  simpa[AF]using p1
 let J:Nat->List AK->Prop:=λi Sl=>∃b,R i b/\Sl=inv b++(N,.raw l (.loop (rec .ready none)))::(N+1,.tv K)::Sf
 let Jx:List AK->Prop:=λSl=>∃c pre,Sl=pre++(N,.raw l (.loop (rec .done (some c))))::(N+1,.tv K)::Sf/\AWP none P nt c Q ⟨T,pre++Sf⟩
 have hY:Ub P (.func (.yield l) #[] #[]) xs J Jx:=by
  refine⟨l,rfl,?_⟩;rintro i vs hi C Sl ⟨b,hRb,rfl⟩ Si mr Nr Zr us hZr Gr hus
  have hRel0:Rel nt mr ⟨Ry T ps.toList (vs C).1,((vs C).2++inv b)++(N,.raw l (.loop (rec .ready none)))::((N+1,.tv K)::Sf++Si)⟩ {tmps:=(ps.toList.zip us).foldl (λt q=>t.setIfInBounds q.1 q.2) a.tmps,defers:=[]} mr.w:=by
   obtain⟨Za,Zb,rfl,hza,hzb⟩:=Bv (A:=Si) hZr;have hp:(Za++Zb).Perm (Zb++Za):=Aw;refine⟨mr,Nr,Zb++Za,rfl,by simp[hza,hzb],Gr.perm hp,TRel.zip ⟨h4.1,DRel.nil rfl,λd v hd=>?_⟩ hus λd hd=>?_⟩
   ·have hO:∃bs,((N+1,AO.tv K),bs)∈Zb:=by
     have:(N+1,AO.tv K)∈Zb.map (·.1):=by rw[hzb];simp
     obtain⟨⟨q,bs⟩,hq,rfl⟩:=BH.1 this;exact⟨bs,hq⟩
    obtain⟨bs,hO⟩:=hO;have:=Gr.obj _ (WP _ hO);obtain⟨_,_,hk⟩:=this;obtain⟨u,h5,_⟩:=h4.2.2 d v hd;exact⟨u,h5,hk v u (by rw[hK];exact⟨d,hd,h5⟩)⟩
   ·have:=Cl.1 hps d hd
    simpa[HV]using this
  have hheap:=(hRel0.setRaw (o':=.deferred none)).1
  have hus2:us.length=ps.size:=by
   rw[(VTs.get hus).1];exact hlen vs (ND hi) C
  refine⟨fn,(ps.toList.zip us).foldl (λt q=>t.setIfInBounds q.1 q.2) a.tmps,assign,body,?_,?_⟩
  ·have:=run_yield (P:=P) (args:=us.toArray) hheap (by rw[hrec];simpa using hus2)
   rw[this,hrec];simp only
   congr 2
   rw[<-PG];simp[Array.toList_zip]
  ·have hA:=hround i vs C b l _ ((N,.raw l (.loop (rec .busy none)))::((N+1,.tv K)::Sf++Si)) hi hRb mr _ _ (by rw[AF]at hRel0;exact hRel0)
   refine roundIn_of_wpIn (F:=FW none) C9 (J1 (F:=FW (some l)) hA λe a' w' ⟨st',hr',hq⟩=>?_);cases e with
   |normal=>
    obtain⟨pre,hsub,hk⟩:=hq;obtain⟨hb1,hr2⟩:=(hr'.sub (T:=st'.T) hsub).setRaw (o':=.loop (rec .busy none));refine⟨_,run_beginRound hb1 (by rw[hrec]),?_⟩
    have hr3:Rel nt mr ⟨st'.T,pre++(N,.raw l (.loop (rec .busy none)))::((N+1,.tv K)::Sf++Si)⟩ a' (w'.putObj l (.loop {rec .ready none with state:=.busy})):=by
     have:({rec .ready none with state:=.busy}:Loop)=rec .busy none:=by rw[hrec]
     rw[this];exact hr2
    refine J1 (F:=FW (some l)) (hk mr _ _ hr3) λe a2 w2 ⟨st2,hr4,hq2⟩=>?_
    have fin:∀(pre2:List AK) (jump:Option Code) (st:LoopState),st=(if jump.isNone then LoopState.ready else .done)->(pre2++(N,.raw l (.loop (rec .busy none)))::((N+1,.tv K)::Sf++Si)).Sublist st2.S->
      ((jump.isNone=true->J (i+1) (pre2++(N,.raw l (.loop (rec st jump)))::(N+1,.tv K)::Sf))/\(jump.isNone=false->Jx (pre2++(N,.raw l (.loop (rec st jump)))::(N+1,.tv K)::Sf)))->
      ∃v w',(Instr.endRound l jump).run P w2= .ok v w' /\∃b Sl' m' N' Z',Ending.returned v= .returned (.bool b)/\m'.w=w' /\Z'.map (·.1)=Si++Sl' /\Good mr m' N' Z' []/\(b=true->J (i+1) Sl')/\(b=false->Jx Sl'):=by
     intro pre2 jump st hst hsub2 hj;obtain⟨hb3,hr5⟩:=(hr4.sub (T:=st2.T) hsub2).setRaw (o':=.loop (rec st jump));refine⟨_,_,run_endRound jump hb3,jump.isNone,pre2++(N,.raw l (.loop (rec st jump)))::(N+1,.tv K)::Sf,?_⟩;have hrq:({rec .busy none with state:=if jump.isNone then .ready else .done,pending:=jump}:Loop)=rec st jump:=by rw[hrec,hst]
     rw[hrq];obtain⟨m',N',Z',h5,h6,h7,h8⟩:=hr5;have h6':Z'.map (·.1)=(pre2++(N,.raw l (.loop (rec st jump)))::(N+1,.tv K)::Sf)++Si:=by simpa using h6
     obtain⟨Zc,Zd,rfl,hzc,hzd⟩:=Bv h6';exact⟨m',N',Zd++Zc,rfl,h5,by simp only[AJ,hzc,hzd],h7.perm Aw,hj.1,hj.2⟩
    cases e with
    |normal=>
     obtain⟨pre2,hsub2,b',hRb',rfl⟩:=hq2;exact fin (inv b') none .ready rfl hsub2 ⟨λ_=>⟨b',hRb',rfl⟩,λh=>by cases h⟩
    |ret=>
     obtain⟨pre2,hsub2,hx⟩:=hq2;exact fin pre2 (some .ret) .done rfl hsub2 ⟨λh=>(by cases h),λ_=>⟨_,pre2,rfl,hx⟩⟩
    |exit id=>
     obtain⟨pre2,hsub2,hx⟩:=hq2;exact fin pre2 (some (.exit id)) .done rfl hsub2 ⟨λh=>(by cases h),λ_=>⟨_,pre2,rfl,hx⟩⟩
    |goto t=>exact hq2.elim
    |panic ch=>exact hq2.elim
    |outgrown=>exact hq2.elim
   |_=>exact hq.elim
 have hSp:=hI.2 _ J Jx hY (inv b0++(N,.raw l (.loop (rec .ready none)))::(N+1,.tv K)::Sf) ⟨b0,hR,rfl⟩
 have hcall:=hSp.run [] m3 (N+1+1) (Zi++((N,.raw l (.loop (rec .ready none))),[l])::((N+1,.tv K),[])::Zf) (#[.func (.yield l) #[] #[]]++cs) (by simp[hzi,hzf])
  (by
   refine(G3.perm ?_).self;have:=hsl [((N+1,.tv K),[])] [((N,.raw l (.loop (rec .ready none))),[l])] Zi Zf;simpa using this) (by
   have h5:=Ig hs (VCs.mono hle03 cap (by simp) hcap);have:=(B8 (m:=m3) (a:=.prim (.func (.yield l) #[] #[])) (as:=cap) (vs:=.func (.yield l) #[] #[]::cs.toList) (bs:=[]) rfl).2 ⟨_,_,[],[],rfl,rfl,⟨⟨rfl,rfl⟩,rfl⟩,h5⟩;simpa using this)
 refine⟨l,[ON m.w.heap.size],m3.w,{target:=.fn (.func gf) cs,args:=#[.func (.yield l) #[] #[]]},m3.w,gf,#[.func (.yield l) #[] #[]]++cs,m3.w,?_,?_,?_,?_,?_,?_⟩
 ·rw[hw3,<-hw2,hrec,<-hl]
  exact run_enterLoop_outer fn a.tmps ps assign body
 ·simp only[resolve,rangeCall,e1,Deferred.ofValue]
  simp[AG,Act.eval]
 ·exact λ_ _=>C9
 ·have hf:=hI.1
  unfold MD at hf;split at hf
  ·rename_i fn' hfn
   simp only[AE,Du]at hf
   have hb:fn'.body.isNone=false:=by
    cases hfb:fn'.body with
    |none=>rw[hfb]at hf;simp at hf
    |some c=>rfl
   have h1:¬fn'.name= "runtime.NumGoroutine" :=by simpa using hf.1
   have h2:¬fn'.body=none:=by intro h;rw[h]at hb;cases hb
   simp[invoke,callFunc,program,AI,Sem.run,AA,hfn,h1,h2]
  ·cases hf
 ·exact λh=>(by simp[FW,Fence.wide]at h)
 ·refine LU (hcall.mono ?_)
  rintro e w' ⟨v,r,S',m',N',Z',br,rfl,rfl,hm,G',hv,hq⟩;rw[BL]at hm;obtain⟨G'',_⟩:=Good.freeze (ex:=br) (ex':=[]) (by simpa using(G3.perm (by have:=hsl [((N+1,.tv K),[])] [((N,.raw l (.loop (rec .ready none))),[l])] Zi Zf;simpa using this)).after G') _ rfl;have hle':m3.Le {m' with F:=λb=>m'.F b\/b∈br}:=G'.le.trans ⟨λ_ h=>h,λ_ _ _ h=>h,λb hb=>⟨.inl hb,rfl⟩⟩
  have hT':TRel m0 {m' with F:=λb=>m'.F b\/b∈br} nt T {a with defers:=[ON m.w.heap.size]++a.defers}:=by
   have h5:=h4.mono (hle03.trans hle');refine⟨h5.1,?_,h5.2.2⟩;obtain⟨ds,h6,h7,h8⟩:=h4.2.1;refine⟨m.w.heap.size::ds,by rw[h6];rfl,Bs.2 ⟨λh=>?_,h7⟩,λd hd=>?_⟩
   ·have:=h3.frz _ (h8 _ h).2.1
    omega
   ·rcases AW.1 hd with rfl|hd
    ·exact⟨h3.size,(hle'.F _ h0F).1,(hle'.F _ h0F).2.trans h0D⟩
    ·obtain⟨h9,h10,h11⟩:=h8 d hd
     exact⟨h9,((hle03.trans hle').F _ h10).1,((hle03.trans hle').F _ h10).2.trans h11⟩
  have fin:∀(pre:List AK) (rc:Loop),rc.state≠ .busy->S'=pre++(N,.raw l (.loop rc))::(N+1,.tv K)::Sf->∃w4,(Instr.endLoop l).run P m'.w= .ok rc.pending w4/\Rel nt m0 ⟨T,pre++Sf⟩ {a with defers:=[ON m.w.heap.size]++a.defers} w4:=by
   rintro pre rc hrc rfl;have hrel:Rel nt m0 ⟨T,pre++(N,.raw l (.loop rc))::((N+1,.tv K)::Sf)⟩ {a with defers:=[ON m.w.heap.size]++a.defers} m'.w:=⟨{m' with F:=λb=>m'.F b\/b∈br},N',Z',rfl,hm,G'',hT'⟩;obtain⟨hb5,hr5⟩:=hrel.setRaw (o':=.loop {rc with state:=.exhausted});refine⟨_,run_endLoop hb5 hrc,hr5.sub ?_⟩;exact List.Sublist.append_left (JG _ (JG _ (Dt _))) _
  rcases hq with⟨b,hRb,hS'⟩|⟨c,pre,hS',hx⟩
  ·obtain⟨w4,h5,h6⟩:=fin (inv b) (rec .ready none) (by rw[hrec];simp) hS'
   refine⟨none,w4,by rw[h5,hrec],_,h6,hdone b hRb⟩
  ·obtain⟨w4,h5,h6⟩:=fin pre (rec .done (some c)) (by rw[hrec];simp) hS'
   exact⟨some c,w4,by rw[h5,hrec],hx m0 _ _ h6⟩
theorem P9{g:Operand}{ps:Array Tmp}{assign body:Code}{S Sf:List AK}{gf:FuncId}{xs:List (List AV)}(hI:Itr P gf cap xs)(inv:β->List AK)(R:Nat->β->Prop)(b0:β)(hR:R 0 b0)
  (hround:∀(i:Nat) vs b l F1 F2,xs[i]?=some vs->R i b->AWP (some l) P nt assign (WD F1 F2 λst=>AWP (some l) P nt body (Vx P nt Q T Sf (λpre=>∃b',R (i+1) b' /\pre=inv b') F2) st) ⟨Ry T ps.toList vs,inv b++F1⟩)
  (hdone:∀b,R xs.length b->Q .normal ⟨T,inv b++Sf⟩)
  (hg:ev T g=some (.fn gf cap)) (hs:DG cap=true) (hps:ps.toList.all (Nat.blt · nt)=true) (hlen:∀vs∈xs,vs.length=ps.size) (hS:(inv b0++Sf).Sublist S):AWP none P nt (.rangeFunc g ps assign body) Q ⟨T,S⟩:=
 P8 (xs:=xs.map λvs _=>(vs,[])) hI.o inv R b0 hR (λi vs C b l F1 F2 hi hRb=>by
  rw[Cn]at hi;obtain⟨v,hv,rfl⟩:=WI.1 hi;exact hround i v b l F1 F2 hv hRb) (by rw[List.length_map];exact hdone) hg hs hps (λvs hvs C=>by
  obtain⟨v,hv,rfl⟩:=BH.1 hvs;exact hlen v hv) hS
end
end
section
variable {ro:Option Nat}
open Go.RowKit
section
variable {P:Program}{nt:Nat}{ops:Array Oper}
theorem Ks:∀(r:List Oper) (acc:List Nat),(Do r acc).length=acc.length+r.length
 |[],acc=>by simp[Do]
 |o::r,acc=>by rw[Do,Ks r];simp;omega
theorem Mf(l:List Oper):(Do l []).length=l.length:=by rw[Ks];simp
def QI:Nat->List Nat->Bool
 |_,[]=>true
 |i,m::r=>(List.range i).all (λj=>m.testBit j)&&QI (i+1) r
theorem KX:∀{r:List Nat} {i:Nat},QI i r=true->∀q m,r[q]?=some m->∀j,j<i+q->m.testBit j=true
 |[],i,_,q,m,h=>by simp at h
 |m0::r,i,ht,q,m,h=>by
  simp only[QI,AE]at ht;intro j hj;cases q with
  |zero=>
   simp at h;subst h;exact Cl.1 ht.1 j (Ck.2 (by omega))
  |succ q=>exact KX ht.2 q m (by simpa using h) j (by omega)
theorem FQ{id:Nat}{l:List Oper}{st:St}(k:Nat)(hm:P.follows .mixedOrders=true)(hdn:JY l 0=true)(hT:QI k ((Do l []).drop k)=true)
  (h:RGo P nt l.toArray l (λ_ st'=>AOps ro P nt l.toArray Q (l.drop k) st') (l.take k) [] st):AWP ro P nt (.region id l.toArray true) Q st:=by
 obtain⟨effs,st',hr,hc,hA⟩:=h;rw[EN]at hc;obtain⟨h1,h2,h3⟩:=hr.spec;have hml:(Do l []).length=l.length:=Mf l;have hlen:effs.length=(l.take k).length:=by rw[<-h2,List.length_map]
 have hel:effs.length<=k:=by rw[hlen,CN];omega
 have htail:∀(X:Array Bool) i,k<=i->i<l.length->Cld l.toArray X->(∀e∈(l.toArray[i]!).after.toList,Region.binds .any e=true->X.getD e.on false=true)->∀j,j<i->X.getD j false=true:=by
  intro X i hki hil hdc hpre j hj
  have hcl:=Gj (λp=>X.getD p false||decide (p=i)) l [] (λp o hp hXp ee hee hb=>by
   simp only[Hr,Af,CQ,Cm]at hXp⊢;rcases hXp with h|h
   ·exact .inl (hdc p o (by simpa using hp) h ee hee hb)
   ·subst h
    have:o=l.toArray[p]!:=by simp[Lv,hil,(AC.1 hp).2]
    subst this;exact .inl (hpre ee hee hb)) (λj m h=>by simp at h)
  have:=hcl i (Do l [])[i] (Cf (by omega)) (by simp) j (KX hT (i-k) _ (by rw[Ca,Nat.add_sub_cancel' hki];exact Cf (by omega)) j (by omega));simp only[CQ,Cm]at this;rcases this with h|h
  ·exact h
  ·omega
 refine NE (λm0 X a w=>(Rel nt m0 (stX effs 0 (λj=>X.getD j false) st) a w/\∀j,k<=j->X.getD j false=false)\/∃i,k<=i/\(∀j,j<i->j<l.length->X.getD j false=true)/\(∀j,i<=j->X.getD j false=false)/\wpListIn (FW ro) 0 P l.toArray (λe a' w'=>∃st',Rel nt m0 st' a' w' /\Q e st') (l.drop i) a w) hm hdn (λm0 X a w hX hr=>.inl ⟨by rw[MV hX];exact hr,λj _=>hX j⟩) ?_ ?_
 ·rintro m0 X a w hall (⟨h,h0⟩|⟨i,_,g1,g2,h⟩)
  ·have hkl:l.length<=k:=FP λhlt=>by have:=hall k hlt;rw[h0 k (AP _)]at this;cases this
   obtain⟨k1,k2⟩:=Il (effs:=effs) (st:=st) (λj hj=>hall j (by rw[hlen,CN]at hj;omega));have:=hA m0 a w (by rw[h1];exact h.like ⟨λt=>(k1 t).symm,k2.symm⟩);rw[GJ hkl]at this;exact this
  ·have hil:l.length<=i:=FP λhlt=>by have:=hall i hlt;rw[g2 i (AP _)]at this;cases this
   rw[GJ hil]at h;exact h
 ·intro m0 X i hin a w hX hdc hXi hpre hI
  have hil:i<l.length:=by simpa using hin
  have ho:l.toArray[i]?=some l.toArray[i]:=by simp[hin]
  have hX':=Kf (show i<X.size by omega);have hpre':∀e∈(l.toArray[i]!).after.toList,Region.binds .any e=true->X.getD e.on false=true:=by rw[Lv l.toArray i hin];exact hpre
  have tl:k<=i->(∀j,j<i->j<l.length->X.getD j false=true)->(∀j,i<=j->X.getD j false=false)->wpListIn (FW ro) 0 P l.toArray (λe a' w'=>∃st',Rel nt m0 st' a' w' /\Q e st') (l.drop i) a w->wpOpIn (FW ro) 0 P l.toArray (λe a' w'=>∃st',Rel nt m0 st' a' w' /\Q e st') i (λa w=>∃i',k<=i' /\(∀j,j<i' ->j<l.length->(X.setIfInBounds i true).getD j false=true)/\(∀j,i' <=j->(X.setIfInBounds i true).getD j false=false)/\wpListIn (FW ro) 0 P l.toArray (λe a' w'=>∃st',Rel nt m0 st' a' w' /\Q e st') (l.drop i') a w) a w:=by
   intro gk g1 g2 h;rw[List.drop_eq_getElem_cons hil]at h
   have nxt:∀a w,wpListIn (FW ro) 0 P l.toArray (λe a' w'=>∃st',Rel nt m0 st' a' w' /\Q e st') (l.drop (i+1)) a w->∃i',k<=i' /\(∀j,j<i' ->j<l.length->(X.setIfInBounds i true).getD j false=true)/\(∀j,i' <=j->(X.setIfInBounds i true).getD j false=false)/\wpListIn (FW ro) 0 P l.toArray (λe a' w'=>∃st',Rel nt m0 st' a' w' /\Q e st') (l.drop i') a w:=λa w hw=>⟨i+1,by omega,λj hj hjl=>by
    rw[hX'];by_cases e:j=i
    ·simp[e]
    ·rw[g1 j (by omega) hjl];rfl,λj hj=>by
    rw[hX',g2 j (by omega)];simp;omega,hw⟩
   unfold wpOpIn;simp only[ho];unfold wpListIn at h;by_cases hw:Region.wanted l.toArray[i] (yielded l.toArray a.tmps)=true
   ·rw[A1 hw]
    rw[A1 (by simpa using hw)]at h;simpa using Oper.wpIn_mono nxt h
   ·rw[Ah hw]
    rw[Ah (by simpa using hw)]at h;exact⟨by simpa using h.1,by simpa using nxt _ _ h.2⟩
  rcases hI with⟨h,h0⟩|⟨i',gk,g1,g2,h⟩
  ·by_cases hik:i<k
   ·obtain⟨e,he⟩:∃e,effs[i]?=some e:=⟨_,Cf (show i<effs.length by rw[hlen,CN];omega)⟩
    obtain⟨heo,hrT,hrS,hT2,hS2⟩:=Ka (by rw[h2];exact List.take_prefix _ _) (by simpa using hc) hX hdc hin hXi hpre he;have hl:=h3 i e he m0 _ _ a w hrT hrS h
    have n0:∀j,k<=j->(X.setIfInBounds i true).getD j false=false:=λj hj=>by
     rw[hX',h0 j hj];simp;omega
    unfold wpOpIn;simp only[ho];rw[heo]at hl;by_cases hw:Region.wanted l.toArray[i] (yielded l.toArray a.tmps)=true
    ·rw[A1 hw]at hl⊢
     exact If hl λa w h=>.inl ⟨h.like ⟨hT2,hS2⟩,n0⟩
    ·rw[Ah hw]at hl⊢
     exact⟨λ_ _=>C9,.inl ⟨hl.like ⟨hT2,hS2⟩,n0⟩⟩
   ·have hki:=FP hik
    have hb:=htail X i hki hil hdc hpre';have hik2:i=k:=Nat.le_antisymm (FP λhlt=>by have:=hb k hlt;rw[h0 k (AP _)]at this;cases this) hki;subst hik2;obtain⟨k1,k2⟩:=Il (effs:=effs) (st:=st) (λj hj=>hb j (by omega));exact wpOpIn_mono (λa w h=>.inr h) (tl (AP _) (λj hj _=>hb j hj) h0 (hA m0 a w (by rw[h1];exact h.like ⟨λt=>(k1 t).symm,k2.symm⟩)))
  ·have hii:i'=i:=by
    rcases Ex i i' with hlt|he|hlt
    ·have:=g1 i hlt hil
     rw[hXi]at this;cases this
    ·exact he.symm
    ·have:=htail X i (by omega) hil hdc hpre' i' hlt
     rw[g2 i' (AP _)]at this;cases this
   subst hii;exact wpOpIn_mono (λa w h=>.inr h) (tl gk g1 g2 h)
end
end
section
variable {ro:Option Nat}
open Go.RowKit
theorem SU{R:β->Prop}{μ:β->Nat}{inv:β->St}{st:St}(b':β)(hR:R b')(hS:(inv b').S.Sublist st.S)(hμ:μ b'<m:=by omega)(hT:Looks st.T (inv b').T:=by exact(by(repeat (first|exact .nil|refine .cons (by first|rfl|assumption) ?_)))):∃b',R b' /\μ b'<m/\st.Le (inv b'):=⟨b',hR,hμ,hT,hS⟩
instance {f:FuncId}{l l':List AV}[h:Frzs l l']:Frz (.fn f l) (.fn f l'):=⟨by show AV.fn f (AV.frzs l)=_;rw[h.h]⟩
instance {l l':List AV}[h:Frzs l l']:Frz (.fp l) (.fp l'):=⟨by show AV.fp (AV.frzs l)=_;rw[h.h]⟩
section
variable {P:Program}{nt:Nat}{ops:Array Oper}{Q:Exit->St->Prop}{rest:List Oper}{T:List (Nat×AV)}{S:List AK}{dst:Option Tmp}{ty t te:TypeId}{pos:String}{after:Array Edge}{g:Option (Nat×Bool)}{x y:Operand}{X p sz:Nat}{l:List AV}
theorem TJ(he:Dn P t=some te)(hsz:tSz P te=some sz):OpT P ⟨dst,.buildSlice t 0 #[],ty,pos,after,g⟩ [] [(p,(X,.gone))] (.sl X 0 0) [(p,(X,.row te sz []))]:=by
 refine OpT.new_ (λm a hx=>?_);refine⟨#[],0,.slice (some ⟨m.w.heap.size,0,none⟩) 0 0,?_,by simp,by simp,by decide,by simp,⟨by simp,rfl⟩,.inr ⟨0,rfl,AP _,rfl⟩⟩
 have hr:(Instr.buildSlice t 0 #[]).run P m.w= .ok (.slice (some ⟨m.w.heap.size,0,none⟩) 0 0) (m.w.alloc (.cells #[] te)):=by
  simp[Instr.buildSlice,A7 (CB he),Ec hsz,AI,AA,AG,Instr.fill,newRow];rw[show∀f:Nat->Value,Array.map f (Array.range 0)=#[]from λf=>Array.size_eq_zero_iff.1 (by simp)]
 simp[execOp,AI,hr,AG,AA]
theorem TO{o:Oper}{xs:List (Operand×AV)}{K:AV->Prop}(hg:o.guard=none)(hnd:∀c,o.op≠ .defer c)(h:∀(m:Mem) (a:Act),(∀q∈xs,VV m q.2 (a.eval q.1) [])->∃u v,(execOp a.eval o).run P m.w= .ok (.value u) m.w/\VV m v u []/\K v)(hx:Evs T xs)(hd:Ao o.dst nt=true)
  (k:∀v,K v->AOps ro P nt ops Q rest ⟨A6 T o.dst v,S⟩):AOps ro P nt ops Q (o::rest) ⟨T,S⟩:=by
 rintro m0 a w ⟨m,N,Z,rfl,h2,h3,h4⟩;refine FX hg λK' hK=>⟨λ_ _=>C9,?_⟩
 obtain⟨u,v,h5,h6,h7⟩:=h m a λq hq=>h4.ev (hx.all q hq)
 rw[Rk _ _ _ hnd,h5];exact hK _ _ (k v h7 m0 _ _ ⟨m,N,Z,rfl,h2,h3,h4.put (DM hd) h6⟩)
theorem AOps.isNil[TEl P t te](k:∀b:Bool,(b=true->l=[])->AOps ro P nt ops Q rest ⟨A6 T dst (.prim (.bool b)),S⟩){t':TypeId}(hx:ev T x=some (.lst false t' sz l):=by rfl)(hd:Ao dst nt=true:=by rfl):AOps ro P nt ops Q (⟨dst,.binOp .eql t x (.const (.slice none 0 0)) t,ty,pos,after,none⟩::rest) ⟨T,S⟩:=by
 refine TO (xs:=[(x,.lst false t' sz l)]) (K:=λv=>∃b:Bool,(b=true->l=[])/\v= .prim (.bool b)) rfl (by simp) (λm a hv=>?_) (.cons hx .nil) hd λv ⟨b,hb,e⟩=>e▸k b hb
 obtain⟨_,A,cap,e1,_,_,h0⟩:=hv _ (A4 ..);injection e1 with e1
 simp only at e1;refine⟨.bool A.isNone,.prim (.bool A.isNone),?_,Cc _,A.isNone,λhn=>?_,rfl⟩
 ·have:=Lib.run_eql_slice_nil (P:=P) m.w t te A l.length cap 0 0 (CB TEl.h)
  have hc:a.eval (.const (.slice none 0 0))= .slice none 0 0:=rfl;have hq:(eqGuard .eql t x (.const (.slice none 0 0)) (.slice A l.length cap) (.slice none 0 0)).run P m.w= .ok () m.w:=rfl;simp[execOp,e1,hc,AI,AG,AA,this,hq]
 ·cases l with
  |nil=>rfl
  |cons a l=>
   obtain⟨b,off,arr,t,r,e2,_⟩:=h0 (by simp);rw[e2]at hn;cases hn
theorem NF[TEl P t te][TSize P te sz](k:∀X,AOps ro P nt ops Q rest ⟨A6 T dst (.sl X 0 0),(X,.row te sz [])::S⟩)(hd:Ao dst nt=true:=by rfl):AOps ro P nt ops Q (⟨dst,.buildSlice t 0 #[],ty,pos,after,none⟩::rest) ⟨T,S⟩:=
 Fe λX=>AOps.step (o:=⟨dst,.buildSlice t 0 #[],ty,pos,after,none⟩) (xs:=[]) (rS:=[(0,(X,.gone))]) rfl (TJ TEl.h TSize.h) .nil (.cons .here .nil) hd (k X)
section
variable {Si Sl Sf:List AK}{yv:Value}{xs:List (List AV)}{J:Nat->List AK->Prop}{Jx:List AK->Prop}{ats:Array TypeId}{i:Nat}{x0 x1:Operand}{v0 v1:AV}
theorem PB(hY:Yld P yv xs J Jx)(hJ:J i Sl)(hi:xs[i]?=some [v0,v1])(kt:∀Sl',J (i+1) Sl' ->AOps ro P nt ops Q rest ⟨A6 T dst (.prim (.bool true)),Si++(Sl'++Sf)⟩)(kf:∀Sl',Jx Sl' ->AOps ro P nt ops Q rest ⟨A6 T dst (.prim (.bool false)),Si++(Sl'++Sf)⟩)
  (hx:ev T x=some (.prim yv):=by rfl) (h0:ev T x0=some v0:=by rfl) (h1:ev T x1=some v1:=by rfl) (ht:BT [(x0,v0),(x1,v1)]=true:=by rfl) (hd:Ao dst nt=true:=by rfl):AOps ro P nt ops Q (⟨dst,.call ⟨.value x,#[x0,x1],ats⟩,ty,pos,after,none⟩::rest) ⟨T,Si++(Sl++Sf)⟩:=
 AOps.yield (ys:=[(x0,v0),(x1,v1)]) hY hJ hi hx (.cons h0 (.cons h1 .nil)) ht hd kt kf
end
theorem GY{kk kk':IntKind}{m by_:Nat}{i j:Int}(a:AV)[TEl P t te][TZe P te zl][TSize P te sz][TAg P te ag][TBy P te by_](k:∀X,AOps ro P nt ops Q rest ⟨A6 T dst (.sl X 0 m),(X,.row te sz (List.replicate m a))::S⟩)
  (hx:Rd none T x (.prim (.int kk i)):=by rfl) (hy:Rd none T y (.prim (.int kk' j)):=by rfl) (hq:i=(m:Int):=by rfl) (hq':j=(m:Int):=by rfl) (hm:m<=1099511627776:=by first|assumption|omega|(simp;omega)) (hby:by_<=128:=by decide) (hzs:zl.length=sz:=by exact rfl) (hag:ag=true\/zl.length=1:=by first|exact .inl rfl|exact .inr rfl) (hz:zAV zl ag=a:=by exact rfl) (hd:Ao dst nt=true:=by rfl):AOps ro P nt ops Q (⟨dst,.makeSlice t x y,ty,pos,after,none⟩::rest) ⟨T,S⟩:=by
 subst hz;exact Fe λX=>CM (W.make hx hy .here hzs hag hq hq' (AP _) (CT (Nat.mul_le_mul hby hm) (by decide)) (CT hm (by decide))) hd (k X)
theorem PD{st:St}(k:AOps ro P nt ops Q (⟨dst,.makeSlice t x y,ty,pos,after,g⟩::rest) st):AOps ro P nt ops Q (⟨dst,.makeSlice t x y,ty,pos,after,g⟩::rest) st:=k
end
end
theorem CA{Q:AV->List AK->Prop}{st:St}(S':List AK)(hQ:Q (.tup []) S')(hS:(S'++Sf).Sublist st.S:=by(repeat (first|exact Dt _|exact List.Sublist.slnil|apply List.Sublist.cons_cons|apply JG))):Ends P [] Sf Q st:=⟨[],[],st.S,S',.nil,.nil,hS,hQ⟩
inductive Sub1:AV->AV->Prop
 |refl {a:AV}:Sub1 a a
 |nil {t:TypeId} {sz:Nat}:Sub1 (.prim (.slice none 0 0)) (.lst false t sz [])
inductive Subs:List AV->List AV->Prop
 |nil:Subs [] []
 |cons {a b:AV} {as bs:List AV} (h:Sub1 a b) (k:Subs as bs):Subs (a::as) (b::bs)
theorem Subs.vts{m:Mem}{as bs:List AV}(h:Subs as bs):∀{us:List Value},VTs m as us []->VTs m bs us []:=by
 induction h with
 |nil=>exact λh=>h
 | @cons a b as bs h k ih=>
  intro us hv;obtain⟨v,vs',b1,b2,rfl,e,h1,h2⟩:=(B8 hv.ntup).1 hv;obtain⟨rfl,rfl⟩:b1=[]/\b2=[]:=by simpa using e.symm
  cases h with
  |refl=>exact(B8 hv.ntup).2 ⟨v,vs',[],[],rfl,rfl,h1,ih h2⟩
  |nil=>
   refine(B8 rfl).2 ⟨v,vs',[],[],rfl,rfl,?_,ih h2⟩;obtain⟨⟨h3,_⟩,_⟩:=h1;injection h3 with h3
   subst h3;exact⟨rfl,none,0,rfl,AP _,λe he=>(by cases he),λh0=>absurd h0 (by simp)⟩
theorem Spec.arg{f:FuncId}{args args':List AV}{Q:AV->List AK->Prop}(h:Spec P f args S Q)(k:Subs args' args):Spec P f args' S Q:=
 ⟨h.fn,λSf m N Z vals h1 h2 h3=>h.run Sf m N Z vals h1 h2 (k.vts h3)⟩
theorem PS.arg{f:FuncId}{args args':List AV}{r:AV}(h:PS P f args r)(k:Subs args' args:=by(repeat (first|exact .nil|refine .cons .refl ?_|refine .cons .nil ?_))):PS P f args' r:=Spec.arg h k
section
variable {ro:Option Nat}
open Go.RowKit
def Hy{β:Type}(Z:List β):List (Nat×β)->List β
 |[]=>Z
 |q::r=>Hy (Z.set q.1 q.2) r
theorem SI(wz:List (Nat×β)):∀Z:List β,(Hy Z wz).length=Z.length:=by
 induction wz with
 |nil=>intro Z;rfl
 |cons q r ih=>intro Z;simp[Hy,ih]
theorem QK(wz:List (Nat×β)){p:Nat}(h:p∉wz.map (·.1)):∀Z:List β,(Hy Z wz)[p]?=Z[p]?:=by
 induction wz with
 |nil=>intro Z;rfl
 |cons q r ih=>
  intro Z;simp only[AR,AW,not_or]at h;rw[Hy,ih h.2,FC (λe=>h.1 e.symm)]
theorem Tu(wz:List (Nat×β))(hnd:(wz.map (·.1)).Nodup):∀Z:List β,(∀q∈wz,q.1<Z.length)->∀q∈wz,(Hy Z wz)[q.1]?=some q.2:=by
 induction wz with
 |nil=>intro Z _ q hq;cases hq
 |cons a r ih=>
  intro Z hlt q hq;rw[AR,Bs]at hnd;rcases AW.1 hq with rfl|hq
  ·rw[Hy,QK r hnd.1,BF (hlt _ (by simp))]
  ·exact ih hnd.2 _ (λq hq=>by rw[By];exact hlt q (by simp[hq])) q hq
theorem OA(wS:List (Nat×AK)):∀S,A5 S wS=Hy S wS:=by
 induction wS with
 |nil=>intro S;rfl
 |cons q r ih=>intro S;exact ih _
theorem OH{l k:List Nat}(hl:l.Nodup)(hk:k.Nodup)(h:∀x,x∈l↔x∈k):l.Perm k:=by
 rw[List.perm_iff_count];intro a;rw[hl.count,hk.count];simp only[h a]
theorem L8(Z:List β):(List.range Z.length).map (λi=>Z[i]?)=Z.map some:=by
 apply CO (by simp);intro i h1 h2;have:i<Z.length:=by simpa using h1
 simp[this]
theorem Q5(Z:List β)(ps:List Nat)(hnd:ps.Nodup)(hlt:∀p∈ps,p<Z.length):∃R,∀wz:List (Nat×β),wz.map (·.1)=ps->(Hy Z wz).Perm (wz.map (·.2)++R):=by
 let Q:=(List.range Z.length).filter λi=>!decide (i∈ps)
 refine⟨Q.filterMap λi=>Z[i]?,λwz hw=>?_⟩;have hwn:(wz.map (·.1)).Nodup:=by rw[hw];exact hnd
 have hwl:∀q∈wz,q.1<Z.length:=λq hq=>hlt _ (by rw[<-hw];exact N2 hq)
 have h1:(List.range Z.length).Perm (ps++Q):=by
  refine(List.filter_append_perm (λi=>decide (i∈ps)) (List.range Z.length)).symm.trans ?_;refine CX _ (OH (List.nodup_range.filter _) hnd λx=>?_);simp only[Dw,Ck,Cm];exact⟨λh=>h.2,λh=>⟨hlt x h,h⟩⟩
 have h2:((Hy Z wz).map some).Perm ((ps++Q).map λi=>(Hy Z wz)[i]?):=by
  rw[<-L8,SI];exact h1.map _
 have h3:ps.map (λi=>(Hy Z wz)[i]?)=(wz.map (·.2)).map some:=by
  rw[<-hw,Ct,Ct];exact FU λq hq=>Tu wz hwn Z hwl q hq
 have h4:Q.map (λi=>(Hy Z wz)[i]?)=(Q.filterMap λi=>Z[i]?).map some:=by
  have:∀L:List Nat,(∀i∈L,i∉ps/\i<Z.length)->L.map (λi=>(Hy Z wz)[i]?)=(L.filterMap λi=>Z[i]?).map some:=by
   intro L
   induction L with
   |nil=>intro _;rfl
   |cons i L ih=>
    intro h;have hi:=h i (by simp);rw[AR,ih λj hj=>h j (by simp[hj]),QK wz (by rw[hw];exact hi.1),Cf hi.2,List.filterMap_cons,Cf hi.2];rfl
  refine this Q λi hi=>?_
  have:=Dw.1 hi;simpa using And.comm.1 this
 rw[AJ,h3,h4,<-AJ]at h2;have h5:=h2.filterMap id;simpa[List.filterMap_map]using h5
inductive TW:AV->AV->List AK->Prop
 |frz {a:AV}:TW a a.frz []
 |lst {t:TypeId} {sz:Nat} {l:List AV} {Y n:Nat} (h:n=l.length):TW (.lst true t sz l) (.sl Y 0 n) [(Y,.row t sz l)]
 |bx {t:TypeId} {a:AV} {Y n:Nat} (h:n=a.width):TW (.bx t a) (.ptr Y 0 0) [(Y,.row t n [a])]
inductive TWs:List AV->List AV->List AK->Prop
 |nil:TWs [] [] []
 |cons {a b:AV} {as bs:List AV} {s r:List AK} (h:TW a b s) (k:TWs as bs r):TWs (a::as) (b::bs) (s++r)
inductive TV:AV->AV->List AK->Prop
 |cell {a b:AV} {s:List AK} (h:TW a b s) (ha:KJ a=true) (hb:KJ b=true):TV a b s
 |agg {as bs:List AV} {s:List AK} (h:TWs as bs s):TV (.agg as) (.agg bs) s
inductive TVs:List AV->List AV->List AK->Prop
 |nil:TVs [] [] []
 |cons {a b:AV} {as bs:List AV} {s r:List AK} (h:TV a b s) (ha:ntup a=true) (hb:ntup b=true) (k:TVs as bs r):TVs (a::as) (b::bs) (s++r)
inductive TR:AV->AV->List AK->Prop
 |frz {a:AV}:TR a a.frz []
 |v {a b:AV} {s:List AK} (h:TV a b s):TR a b s
 |tup {as bs:List AV} {s:List AK} (h:TVs as bs s):TR (.tup as) (.tup bs) s
def Cd(s:List AK):List AK:=s.map λe=>(e.1,.gone)
section
variable {m0 m:Mem}{N:Nat}{R:Zs}{ex:List Nat}
theorem Jf{bsY br:List Nat}{t:TypeId}(G:Good m0 m N (((Y,.gone),bsY)::R) (br++ex))(L:Loc)(hL:L.sz=sz)
  (h:(L.isNil=true/\l=[]/\br=[])\/(L.isNil=false/\∃arr bs',br=L.blk::bs' /\m.w.heap[L.blk]?=some (.cells arr t (0,0))/\arr.size=L.cap*sz/\l.length<=L.cap/\L.cap<=maxLen/\(∀e∈l,e.width=sz)/\VCs m l (arr.toList.take (l.length*sz)) bs')):
  Good m0 ⟨λy=>if y=Y then some L else m.μ y,λy=>m.U y\/y=Y,m.w,m.F⟩ N (((Y,.row t sz l),br)::R) ex/\m.Le ⟨λy=>if y=Y then some L else m.μ y,λy=>m.U y\/y=Y,m.w,m.F⟩:=by
 have hg:=G.obj _ (A4 ..);obtain⟨rfl,hYU⟩:=hg
 have hle:m.Le ⟨λy=>if y=Y then some L else m.μ y,λy=>m.U y\/y=Y,m.w,m.F⟩:=by
  refine⟨λy h=>.inl h,λy L' hy hL=>?_,λb hb=>⟨hb,rfl⟩⟩;simp only at hL;split at hL
  ·rename_i e;subst e;exact absurd hy hYU
  ·exact hL
 refine⟨?_,hle⟩;have hkN:Y<N:=G.keyN Y (by simp[Zs.keys])
 have hown:(br++ex).Nodup:=by
  have:=G.own;rw[AL]at this;exact this.2.1
 refine Good.swap (zs:=[((Y,.gone),[])]) (zs':=[((Y,.row t sz l),br)]) (R:=R) G hle (AP _) (λy hy _=>?_) (λ_ _ _ _=>rfl) ?_ (by simpa[Zs.own]using hown) (λb hb=>?_) (λb hb=>⟨G.frz b hb,.inl hb⟩) (by simp[Zs.keys]) (λy hy=>?_) (λy hy=>?_) rfl rfl rfl (AP _)
 ·simp only[Zs.keys,AR,Bj,AS]at hy
  simp only;rw[Ah hy]
 ·intro z hz
  simp only[AS]at hz;subst hz;refine⟨.inr rfl,L,by simp,hL,?_⟩;rcases h with h|⟨h1,arr,bs',e1,e2,e3,e4,e5,e6,e7⟩
  ·exact .inl h
  ·exact .inr ⟨h1,arr,bs',e1,e2,e3,e4,e5,e6,VCs.mono hle l (λ_ _=>rfl) e7⟩
 ·have hb':b∈br++ex:=by simpa[Zs.own]using hb
  have:=G.blk b (WP _ hb');exact⟨this.1,this.2,.inr (.inl hb')⟩
 ·simp only[Zs.keys,AR,Bj,AS]at hy
  subst hy;exact⟨hkN,.inl (by simp[Zs.keys])⟩
 ·rcases hy with hy|rfl
  ·exact⟨G.usedN y hy,.inl hy⟩
  ·exact⟨hkN,.inr (.inl (by simp[Zs.keys]))⟩
theorem TW.sound{a b:AV}{s:List AK}(h:TW a b s):∀{m:Mem} {br ex:List Nat} {G:Zs} {c:List Value},G.map (·.1)=Cd s->Good m0 m N (G++R) (br++ex)->VC m a c br->
  ∃m' Z',m'.w=m.w/\Z'.map (·.1)=s/\Good m0 m' N (Z'++R) ex/\m.Le m' /\VC m' b c []:=by
 intro m br ex G c hG g hv;cases h with
 |frz=>
  have:G=[]:=by simpa[Cd]using hG
  subst this;obtain⟨G2,hle⟩:=g.freeze _ rfl;exact⟨{m with F:=λb=>m.F b\/b∈br},[],rfl,rfl,G2,hle,VC.frz hle a (λb hb=>⟨.inr hb,rfl⟩) hv⟩
 | @lst t sz l Y n hn=>
  cases G with
  |nil=>simp[Cd]at hG
  |cons z G=>
   simp only[Cd,AR,Bj,CP,List.map_eq_nil_iff]at hG;obtain⟨hz,rfl⟩:=hG;obtain⟨⟨y,o⟩,bsY⟩:=z;simp only[DT]at hz;obtain⟨rfl,rfl⟩:=hz;rcases hv with⟨rfl,rfl,rfl⟩|⟨gb,cap,arr,bs',rfl,rfl,e1,e2,e3,e4,e5,e6⟩
   ·obtain⟨G',hle⟩:=Jf (br:=[]) (t:=t) (sz:=sz) (l:=[]) g ⟨0,0,sz,true⟩ rfl (.inl ⟨rfl,rfl,rfl⟩)
    refine⟨(⟨λx=>if x=y then some ⟨0,0,sz,true⟩else m.μ x,λx=>m.U x\/x=y,m.w,m.F⟩:Mem),[((y,.row t sz []),[])],rfl,rfl,G',hle,rfl,.inr rfl,none,0,by rw[hn];rfl,λL hL=>?_⟩;simp only[GK,AU]at hL;subst hL;exact .inl ⟨rfl,by rw[hn];rfl,rfl,hn⟩
   ·obtain⟨G',hle⟩:=Jf (br:=gb::bs') (t:=t) (sz:=sz) (l:=l) g ⟨gb,cap,sz,false⟩ rfl (.inr ⟨rfl,arr,bs',rfl,e1,e2,e3,e4,e5,e6⟩)
    refine⟨(⟨λx=>if x=y then some ⟨gb,cap,sz,false⟩else m.μ x,λx=>m.U x\/x=y,m.w,m.F⟩:Mem),[((y,.row t sz l),gb::bs')],rfl,rfl,G',hle,rfl,.inr rfl,_,cap,by rw[hn],λL hL=>?_⟩;simp only[GK,AU]at hL;subst hL;exact .inr ⟨rfl,by simp only;omega,0,by simp,λ_=>by simp⟩
 | @bx t a Y n hn=>
  cases G with
  |nil=>simp[Cd]at hG
  |cons z G=>
   simp only[Cd,AR,Bj,CP,List.map_eq_nil_iff]at hG;obtain⟨hz,rfl⟩:=hG;obtain⟨⟨y,o⟩,bsY⟩:=z;simp only[DT]at hz;obtain⟨rfl,rfl⟩:=hz;obtain⟨gb,arr,bs',rfl,rfl,e1,⟨cap,e2,e3,e4⟩,e5⟩:=hv;subst hn;obtain⟨G',hle⟩:=Jf (br:=gb::bs') (t:=t) (sz:=a.width) (l:=[a]) g ⟨gb,cap,a.width,false⟩ rfl (.inr ⟨rfl,arr,bs',rfl,e1,e2,e3,e4,λe he=>by rw[AS.1 he],by simpa using VCs.one.2 e5⟩);refine⟨(⟨λx=>if x=y then some ⟨gb,cap,a.width,false⟩else m.μ x,λx=>m.U x\/x=y,m.w,m.F⟩:Mem),[((y,.row t a.width [a]),gb::bs')],rfl,rfl,G',hle,rfl,.inr rfl,_,rfl,λL hL=>?_⟩;simp only[GK,AU]at hL;subst hL;simp
theorem TWs.sound{as bs:List AV}{s:List AK}(h:TWs as bs s):∀{R:Zs} {m:Mem} {br ex:List Nat} {G:Zs} {c:List Value},G.map (·.1)=Cd s->Good m0 m N (G++R) (br++ex)->VCs m as c br->
  ∃m' Z',m'.w=m.w/\Z'.map (·.1)=s/\Good m0 m' N (Z'++R) ex/\m.Le m' /\VCs m' bs c []:=by
 induction h with
 |nil=>
  intro R m br ex G c hG g hv;obtain⟨rfl,rfl⟩:=hv;have:G=[]:=by simpa[Cd]using hG
  subst this;exact⟨m,[],rfl,rfl,g,.refl _,rfl,rfl⟩
 | @cons a b as bs s r h k ih=>
  intro R m br ex G c hG g hv;obtain⟨c1,c2,b1,b2,rfl,rfl,h1,h2⟩:=hv;rw[Cd,AJ]at hG;obtain⟨G1,G2,rfl,hG1,hG2⟩:=Bv hG;obtain⟨m1,Z1,hw1,hZ1,g1,hle1,v1⟩:=h.sound (R:=G2++R) (ex:=b2++ex) hG1 (by simpa using g) h1
  have g1':Good m0 m1 N (G2++(Z1++R)) (b2++ex):=g1.perm (by
   rw[<-AF,<-AF];exact CX _ Aw)
  obtain⟨m2,Z2,hw2,hZ2,g2,hle2,v2⟩:=ih (R:=Z1++R) hG2 g1' (VCs.mono hle1 as (λb _=>by rw[hw1]) h2)
  refine⟨m2,Z1++Z2,hw2.trans hw1,by simp[hZ1,hZ2],g2.perm (by
   rw[<-AF];exact CX _ Aw),hle1.trans hle2,c1,c2,[],[],rfl,rfl,VC.mono hle2 b (λ_ hb=>by cases hb) v1,v2⟩
theorem TV.sound{a b:AV}{s:List AK}(h:TV a b s):∀{R:Zs} {m:Mem} {br ex:List Nat} {G:Zs} {u:Value},G.map (·.1)=Cd s->Good m0 m N (G++R) (br++ex)->VV m a u br->
  ∃m' Z',m'.w=m.w/\Z'.map (·.1)=s/\Good m0 m' N (Z'++R) ex/\m.Le m' /\VV m' b u []:=by
 intro R m br ex G u hG g hv;cases h with
 |cell h ha hb=>
  obtain⟨m',Z',h1,h2,h3,h4,h5⟩:=h.sound hG g ((Lb ha).1 hv);exact⟨m',Z',h1,h2,h3,h4,(Lb hb).2 h5⟩
 |agg h=>
  obtain⟨cells,rfl,hv⟩:=hv;obtain⟨m',Z',h1,h2,h3,h4,h5⟩:=h.sound hG g hv;exact⟨m',Z',h1,h2,h3,h4,cells,rfl,h5⟩
theorem TVs.sound{as bs:List AV}{s:List AK}(h:TVs as bs s):∀{R:Zs} {m:Mem} {br ex:List Nat} {G:Zs} {us:List Value},G.map (·.1)=Cd s->Good m0 m N (G++R) (br++ex)->VTs m as us br->
  ∃m' Z',m'.w=m.w/\Z'.map (·.1)=s/\Good m0 m' N (Z'++R) ex/\m.Le m' /\VTs m' bs us []:=by
 induction h with
 |nil=>
  intro R m br ex G c hG g hv;obtain⟨rfl,rfl⟩:=hv;have:G=[]:=by simpa[Cd]using hG
  subst this;exact⟨m,[],rfl,rfl,g,.refl _,rfl,rfl⟩
 | @cons a b as bs s r h ha hb k ih=>
  intro R m br ex G c hG g hv;obtain⟨u,us,b1,b2,rfl,rfl,h1,h2⟩:=(B8 ha).1 hv;rw[Cd,AJ]at hG;obtain⟨G1,G2,rfl,hG1,hG2⟩:=Bv hG;obtain⟨m1,Z1,hw1,hZ1,g1,hle1,v1⟩:=h.sound (R:=G2++R) (ex:=b2++ex) hG1 (by simpa using g) h1
  have g1':Good m0 m1 N (G2++(Z1++R)) (b2++ex):=g1.perm (by
   rw[<-AF,<-AF];exact CX _ Aw)
  obtain⟨m2,Z2,hw2,hZ2,g2,hle2,v2⟩:=ih (R:=Z1++R) hG2 g1' (VTs.mono hle1 as (λb _=>by rw[hw1]) h2)
  refine⟨m2,Z1++Z2,hw2.trans hw1,by simp[hZ1,hZ2],g2.perm (by
   rw[<-AF];exact CX _ Aw),hle1.trans hle2,(B8 hb).2 ⟨u,us,[],[],rfl,rfl,VV.mono hle2 (λ_ hb=>by cases hb) v1,v2⟩⟩
theorem TR.sound{a b:AV}{s:List AK}(h:TR a b s){R:Zs}{m:Mem}{br ex:List Nat}{G:Zs}{u:Value}(hG:G.map (·.1)=Cd s)(g:Good m0 m N (G++R) (br++ex))(hv:VV m a u br):
  ∃m' Z',m'.w=m.w/\Z'.map (·.1)=s/\Good m0 m' N (Z'++R) ex/\m.Le m' /\VV m' b u []:=by
 cases h with
 |frz=>
  have:G=[]:=by simpa[Cd]using hG
  subst this;obtain⟨G2,hle⟩:=g.freeze _ rfl;exact⟨{m with F:=λb=>m.F b\/b∈br},[],rfl,rfl,G2,hle,VV.frz hle (λb hb=>⟨.inr hb,rfl⟩) hv⟩
 |v h=>exact h.sound hG g hv
 |tup h=>
  obtain⟨us,rfl,hv⟩:=hv;obtain⟨m',Z',h1,h2,h3,h4,h5⟩:=h.sound hG g hv;exact⟨m',Z',h1,h2,h3,h4,us,rfl,h5⟩
end
theorem Q1(wz:List (Nat×β)):∀Z:List β,(∀q∈wz,Z[q.1]?=some q.2)->Hy Z wz=Z:=by
 induction wz with
 |nil=>intro Z _;rfl
 |cons q r ih=>
  intro Z h;have h1:=h q (by simp);obtain⟨h2,h3⟩:=AC.1 h1;have:Z.set q.1 q.2=Z:=by rw[<-h3];exact Gc h2
  rw[Hy,this];exact ih Z λq hq=>h q (by simp[hq])
section
variable {P:Program}{ty:TypeId}{pos:String}{after:Array Edge}{g:Option (Nat×Bool)}{dst:Option Tmp}{xs:List (Operand×AV)}{f:FuncId}{ats:Array TypeId}{r v:AV}{Sin Sout news:List AK}{rS wS:List (Nat×AK)}
theorem Gp{C:β->Prop}{rr vv:β->AV}{So nw:β->List AK}{gs:List AK}{wE:β->List (Nat×AK)}{args:List AV}{vals:Array Value}(h:Spec P f args Sin λr' S'=>∃b,C b/\r'=rr b/\S'=So b)(hT:∀b,TR (rr b) (vv b) (nw b))(hgs:∀b,Cd (nw b)=gs)(hr:rS.map (·.2)=Sin++gs)(hw:∀b,(wE b).map (·.2)=So b++nw b)(hp:∀b,(wE b).map (·.1)=rS.map (·.1))(hnd:(rS.map (·.1)).Nodup)
  (hS:∀q∈rS,S[q.1]?=some q.2) (hd:∀d,dst=some d->d<nt) {m:Mem} {N:Nat} {Z:Zs} (h2:Z.map (·.1)=S) (h3:Good m0 m N Z []) (h4:TRel m0 m nt T a) (hv:VTs m args vals.toList []):
  Calls P f vals m.w λe w'=>∃u,e= .returned u/\∃b,C b/\Rel nt m0 ⟨A6 T dst (vv b),A5 S (wE b)⟩ (a.put dst u) w':=by
 obtain⟨RS,hR⟩:=Q5 S (rS.map (·.1)) hnd (λp hp=>by
  obtain⟨q,hq,rfl⟩:=BH.1 hp;exact(AC.1 (hS q hq)).1)
 have p1:=hR rS rfl;rw[Q1 rS S hS,hr,AF]at p1;obtain⟨Z1,hz1,hz2⟩:=Fi (λz:AK×List Nat=>z.1) p1 h2;refine(h.run _ m N Z1 vals hz2 (h3.perm hz1).self hv).mono ?_;rintro e w' ⟨u,r',S',m',N',Z',br,rfl,rfl,hm,G',hu,b,hb,rfl,rfl⟩;have p2:=hR (wE b) (hp b);rw[hw,AF,<-OA]at p2;obtain⟨Zo,Zr,rfl,ho,hzr⟩:=Bv hm;obtain⟨Zg,Zf,rfl,hg,hf⟩:=Bv hzr;have G1:=h3.perm hz1 |>.after G'
 have G2:Good m0 m' N' (Zg++(Zo++Zf)) (br++[]):=by
  have:=G1.perm (Z':=Zg++(Zo++Zf)) (by
   rw[<-AF,<-AF];exact CX _ Aw)
  simpa using this
 obtain⟨m2,Zn,hw2,hn,G3,hle,hv2⟩:=(hT b).sound (hg.trans (hgs b).symm) G2 hu
 have G4:=G3.perm (Z':=Zo++(Zn++Zf)) (by
  rw[<-AF,<-AF];exact CX _ Aw)
 obtain⟨Z3,hz3,hz4⟩:=Fi (λz:AK×List Nat=>z.1) (S':=A5 S (wE b)) p2.symm (Z:=Zo++(Zn++Zf)) (by simp[ho,hn,hf]);exact⟨u,rfl,b,hb,m2,N',Z3,hw2,hz4,G4.perm hz3,((h4.mono G'.le).mono hle).put hd hv2⟩
theorem M5{args:List AV}{vals:Array Value}(h:Spec P f args Sin λr' S'=>r'=r/\S'=Sout)(hT:TR r v news)(hr:rS.map (·.2)=Sin++Cd news)(hw:wS.map (·.2)=Sout++news)(hp:wS.map (·.1)=rS.map (·.1))(hnd:(rS.map (·.1)).Nodup)
  (hS:∀q∈rS,S[q.1]?=some q.2) (hd:∀d,dst=some d->d<nt) {m:Mem} {N:Nat} {Z:Zs} (h2:Z.map (·.1)=S) (h3:Good m0 m N Z []) (h4:TRel m0 m nt T a) (hv:VTs m args vals.toList []):
  Calls P f vals m.w λe w'=>∃u,e= .returned u/\Rel nt m0 ⟨A6 T dst v,A5 S wS⟩ (a.put dst u) w':=
 (Gp (β:=Unit) (C:=λ_=>True) (rr:=λ_=>r) (vv:=λ_=>v) (So:=λ_=>Sout) (nw:=λ_=>news) (wE:=λ_=>wS) (h.mono λr' S' ⟨e1,e2⟩=>⟨(),C9,e1,e2⟩) (λ_=>hT) (λ_=>rfl) hr (λ_=>hw) (λ_=>hp) hnd hS hd h2 h3 h4 hv).mono λe w' ⟨u,e1,_,_,k⟩=>⟨u,e1,k⟩
theorem HC{C:β->Prop}{sE:β->St}{ro:Option Nat}{o:Oper}{w:World}{K:Act->World->Prop}{Q:Exit->Act->World->Prop}(hnd:∀c,o.op≠ .defer c)(h:o.wp P a w (λa' w'=>∃b,C b/\Rel nt m0 (sE b) a' w') (λ_ _ _=>False))(hK:∀a' w',(∃b,C b/\Rel nt m0 (sE b) a' w')->K a' w'):o.wpIn (FW ro) 0 P a w K Q:=by
 refine⟨λ_ _=>C9,?_⟩;rw[show o.semAt (FW ro).round a.eval=execOp a.eval o from Rk _ _ _ hnd];unfold Oper.wp at h;cases hr:(execOp a.eval o).run P w with
 |ok n w'=>
  rw[hr]at h
  cases n<;>simp only[Oper.upon,Oper.uponIn]at h⊢<;>
   first
    |exact hK _ _ h
    |exact⟨λh=>(by simp[FW,Fence.wide]at h),CallsIn.mono (LU h) (λe w'' he=>by cases e<;>first|exact hK _ _ he|exact he.elim|exact(by obtain⟨_,_,hh⟩:=he;exact hh.elim))⟩
    |exact⟨λh=>(by simp[FW,Fence.wide]at h),RowsIn.mono (QM h) (λ_ _ he=>hK _ _ he)⟩
 |halt x w'=>rw[hr]at h;cases x<;>simp only[Oper.upon]at h
theorem E5(h:Spec P f (xs.map (·.2)) Sin λr' S'=>r'=r/\S'=Sout)(ht:BT xs=true)(hT:TR r v news)(hr:rS.map (·.2)=Sin++Cd news)(hw:wS.map (·.2)=Sout++news)(hp:wS.map (·.1)=rS.map (·.1))(hnd:(rS.map (·.1)).Nodup):
  OpT P ⟨dst,.call ⟨.value (.func f),(xs.map (·.1)).toArray,ats⟩,ty,pos,after,g⟩ xs rS v wS:=by
 intro nt m0 T S a w hx hS hd hrel;obtain⟨m,N,Z,rfl,h2,h3,h4⟩:=hrel;refine Ge (λ_=>rfl) h.fn ?_;exact M5 h hT hr hw hp hnd hS hd h2 h3 h4 (by have:=FK (DU ht) λq hq=>h4.ev (hx q hq);simpa[Cp]using this)
theorem P3(h:Spec P f (xs.map (·.2)++cap) Sin λr' S'=>r'=r/\S'=Sout)(hs:DG cap=true)(ht:BT xs=true)(hT:TR r v news)(hr:rS.map (·.2)=Sin++Cd news)(hw:wS.map (·.2)=Sout++news)(hp:wS.map (·.1)=rS.map (·.1))(hnd:(rS.map (·.1)).Nodup):
  OpT P ⟨dst,.call ⟨.value x,(xs.map (·.1)).toArray,ats⟩,ty,pos,after,g⟩ ((x,.fn f cap)::xs) rS v wS:=by
 intro nt m0 T S a w hx hS hd hrel;obtain⟨m,N,Z,rfl,h2,h3,h4⟩:=hrel;obtain⟨vs,e1,h5⟩:=h4.ev (hx (x,.fn f cap) (by simp));injection e1 with e1
 refine KP e1 h.fn ?_
 exact M5 h hT hr hw hp hnd hS hd h2 h3 h4 (by
  have:=KE (FK (DU ht) λq hq=>h4.ev (hx q (by simp[hq]))) (Ig hs h5);simpa[Cp]using this)
inductive Pos(S:List AK):List AK->List AK->List (Nat×AK)->List (Nat×AK)->Prop
 |nil:Pos S [] [] [] []
 |cons {a b:AK} {as bs:List AK} {rs ws:List (Nat×AK)} {p:Nat} (h:At S p a) (k:Pos S as bs rs ws):Pos S (a::as) (b::bs) ((p,a)::rs) ((p,b)::ws)
theorem Pos.all{S as bs:List AK}{rs ws:List (Nat×AK)}(h:Pos S as bs rs ws):rs.map (·.2)=as/\ws.map (·.2)=bs/\ws.map (·.1)=rs.map (·.1)/\Gets S rs:=by
 induction h with
 |nil=>exact⟨rfl,rfl,rfl,.nil⟩
 |cons h k ih=>exact⟨by simp[ih.1],by simp[ih.2.1],by simp[ih.2.2.1],.cons h ih.2.2.2⟩
theorem Fx{C:β->Prop}{rr vv:β->AV}{So nw:β->List AK}{gs:List AK}{wE:β->List (Nat×AK)}(h:Spec P f (xs.map (·.2)) Sin λr' S'=>∃b,C b/\r'=rr b/\S'=So b)(hT:∀b,TR (rr b) (vv b) (nw b))(hgs:∀b,Cd (nw b)=gs)(hpos:∀b,Pos S (Sin++gs) (So b++nw b) rS (wE b))(hnd:(rS.map (·.1)).Nodup)(hr:rS.map (·.2)=Sin++gs)(hG:Gets S rS)(hx:Evs T xs)(ht:BT xs=true)(hd:Ao dst nt=true)
  (k:∀b,C b->AOps ro P nt ops Q rest ⟨A6 T dst (vv b),A5 S (wE b)⟩):AOps ro P nt ops Q (⟨dst,.call ⟨.value (.func f),(xs.map (·.1)).toArray,ats⟩,ty,pos,after,none⟩::rest) ⟨T,S⟩:=by
 rintro m0 a w ⟨m,N,Z,rfl,h2,h3,h4⟩;refine FX rfl λK hK=>HC (C:=C) (sE:=λb=>⟨A6 T dst (vv b),A5 S (wE b)⟩) (by simp) (Ge (λ_=>rfl) h.fn (Gp h hT hgs hr (λb=>(hpos b).all.2.1) (λb=>(hpos b).all.2.2.1) hnd hG.all (DM hd) h2 h3 h4 ?_)) λa' w' ⟨b,hb,hrel⟩=>hK _ _ (k b hb m0 _ _ hrel)
 have:=FK (DU ht) λq hq=>h4.ev (hx.all q hq)
 simpa[Cp]using this
theorem TR.fz{r v:AV}[h:Frz r v]:TR r v []:=h.h▸ .frz
theorem TR.ls{t:TypeId}:TR (.lst true t sz l) (.sl Y 0 l.length) [(Y,.row t sz l)]:=.v (.cell (.lst rfl) rfl rfl)
end
mutual
inductive Ho(a b:AV):AV->AV->Prop
 |here:Ho a b a b
 |agg {as bs:List AV} (h:Hos a b as bs):Ho a b (.agg as) (.agg bs)
inductive Hos(a b:AV):List AV->List AV->Prop
 |head {x y:AV} {as:List AV} (h:Ho a b x y):Hos a b (x::as) (y::as)
 |tail {x:AV} {as bs:List AV} (h:Hos a b as bs):Hos a b (x::as) (x::bs)
end
mutual
theorem Ho.vc{a b:AV}{m:Mem}:{x y:AV}->Ho a b x y->{c:List Value}->{bs:List Nat}->VC m x c bs->
  ∃c0 B bs',bs.Perm (B++bs')/\VC m a c0 B/\∀m' B',m.Le m' ->m'.w=m.w->VC m' b c0 B' ->∃bs2,bs2.Perm (B'++bs')/\VC m' y c bs2
 |_,_,.here,c,bs,h=>⟨c,bs,[],by simp,h,λm' B' _ _ k=>⟨B',by simp,k⟩⟩
 |_,_,.agg h,c,bs,k=>Hos.vcs h k
theorem Hos.vcs{a b:AV}{m:Mem}:{x y:List AV}->Hos a b x y->{c:List Value}->{bs:List Nat}->VCs m x c bs->
  ∃c0 B bs',bs.Perm (B++bs')/\VC m a c0 B/\∀m' B',m.Le m' ->m'.w=m.w->VC m' b c0 B' ->∃bs2,bs2.Perm (B'++bs')/\VCs m' y c bs2
 |_,_,.head (as:=as) h,_,_,⟨c1,c2,b1,b2,e1,e2,h1,h2⟩=>by
  obtain⟨c0,B,bs',hp,hv,k⟩:=Ho.vc h h1;refine⟨c0,B,bs'++b2,by rw[e2,<-AF];exact hp.append_right _,hv,λm' B' hle hw hb=>?_⟩;obtain⟨bs2,hp2,hv2⟩:=k m' B' hle hw hb;exact⟨bs2++b2,by rw[<-AF];exact hp2.append_right _,c1,c2,bs2,b2,e1,rfl,hv2,VCs.mono hle as (λ_ _=>by rw[hw]) h2⟩
 |_,_,.tail (x:=x) h,_,_,⟨c1,c2,b1,b2,e1,e2,h1,h2⟩=>by
  obtain⟨c0,B,bs',hp,hv,k⟩:=Hos.vcs h h2;refine⟨c0,B,b1++bs',?_,hv,λm' B' hle hw hb=>?_⟩
  ·rw[e2]
   refine(hp.append_left _).trans ?_;rw[<-AF,<-AF];exact List.perm_append_comm.append_right _
  ·obtain⟨bs2,hp2,hv2⟩:=k m' B' hle hw hb
   refine⟨b1++bs2,?_,c1,c2,b1,bs2,e1,rfl,VC.mono hle x (λ_ _=>by rw[hw]) h1,hv2⟩;refine(hp2.append_left _).trans ?_;rw[<-AF,<-AF];exact List.perm_append_comm.append_right _
end
mutual
theorem Ho.width{a b:AV}(h0:b.width=a.width):{x y:AV}->Ho a b x y->y.width=x.width
 |_,_,.here=>h0
 |_,_,.agg h=>Hos.widths h0 h
theorem Hos.widths{a b:AV}(h0:b.width=a.width):{x y:List AV}->Hos a b x y->AV.widths y=AV.widths x
 |_,_,.head h=>by simp only[AV.widths];rw[Ho.width h0 h]
 |_,_,.tail h=>by simp only[AV.widths];rw[Hos.widths h0 h]
end
theorem Hos.len{a b:AV}{x y:List AV}(h:Hos a b x y):y.length=x.length:=by
 induction x generalizing y with
 |nil=>cases h
 |cons e x ih=>cases h with
  |head h=>rfl
  |tail h=>simp[ih h]
theorem Hos.wd{a b:AV}(h0:b.width=a.width){x y:List AV}(h:Hos a b x y)(hw:∀e∈x,e.width=n):∀e∈y,e.width=n:=by
 induction x generalizing y with
 |nil=>cases h
 |cons e x ih=>cases h with
  |head h=>
   intro z hz;rcases AW.1 hz with rfl|hz
   ·rw[h.width h0];exact hw e (by simp)
   ·exact hw z (by simp[hz])
  |tail h=>
   intro z hz;rcases AW.1 hz with rfl|hz
   ·exact hw _ (by simp)
   ·exact ih h (λe he=>hw e (by simp[he])) z hz
theorem Hos.orel{a b:AV}{m:Mem}{l2 l2':List AV}(hI:Hos a b l2 l2')(h0:b.width=a.width)(h:ORel m Y (.row t2 sz2 l2) bs):
  ∃c0 B bs',bs.Perm (B++bs')/\VC m a c0 B/\∀m' B',m.Le m' ->m'.w=m.w->(∀L,m.μ Y=some L->m'.μ Y=some L)->VC m' b c0 B' ->∃bs2,bs2.Perm (B'++bs')/\ORel m' Y (.row t2 sz2 l2') bs2:=by
 obtain⟨hU,L,h1,h2,h3⟩:=h;rcases h3 with⟨h4,rfl,h5⟩|⟨h4,arr,bs',h5,h6,h7,h8,h9,h10,h11⟩
 ·cases hI
 ·obtain⟨c0,B,bs1,hp,hv,k⟩:=hI.vcs h11
  refine⟨c0,B,L.blk::bs1,?_,hv,λm' B' hle hw hμ hb=>?_⟩
  ·rw[h5];exact(hp.cons _).trans List.perm_middle.symm
  ·obtain⟨bs2,hp2,hv2⟩:=k m' B' hle hw hb
   refine⟨L.blk::bs2,(hp2.cons _).trans List.perm_middle.symm,hle.U _ hU,L,hμ L h1,h2,.inr ⟨h4,arr,bs2,rfl,by rw[hw];exact h6,h7,by rw[hI.len];exact h8,h9,hI.wd h0 h10,?_⟩⟩;rw[hI.len];exact hv2
section
variable {m0 m:Mem}{N:Nat}{R:Zs}{ex:List Nat}
theorem Good.bag{z z':AK×List Nat}{B:List Nat}(G:Good m0 m N (z::R) ex)(hk:z'.1.1=z.1.1)(ho:ORel m z'.1.1 z'.1.2 z'.2)(hp:z.2.Perm (B++z'.2)):Good m0 m N (z'::R) (B++ex):=by
 have p1:(Zs.own (z::R)++ex).Perm (Zs.own (z'::R)++(B++ex)):=by
  simp only[CF];refine((hp.append_right _).append_right _).trans ?_;rw[AF,AF,AF];refine List.perm_append_comm.trans ?_;simp only[AF];refine BO _ (BO _ ?_);exact Aw
 refine⟨?_,p1.nodup_iff.1 G.own,λb hb=>G.blk b (p1.mem_iff.2 hb),G.frz,?_,?_,G.usedN,G.le,G.os,G.tape,G.output,G.size⟩
 ·intro q hq
  rcases AW.1 hq with rfl|hq
  ·exact ho
  ·exact G.obj q (G8 _ hq)
 ·have:=G.keys
  simpa[Zs.keys,hk]using this
 ·intro x hx
  refine G.keyN x ?_;simpa[Zs.keys,hk]using hx
theorem T6{t:TypeId}{c:List Value}{B:List Nat}(hY:¬m.U Y)(h:VC m (.lst true t sz l) c B):
  ∃m',(∀x,x≠Y->m'.μ x=m.μ x)/\(∀x,m'.U x↔(m.U x\/x=Y))/\m'.w=m.w/\m'.F=m.F/\m.Le m' /\VC m' (.sl Y 0 l.length) c []/\ORel m' Y (.row t sz l) B:=by
 have key:∀L:Loc,m.Le ⟨λx=>if x=Y then some L else m.μ x,λx=>m.U x\/x=Y,m.w,m.F⟩:=λL=>by
  refine⟨λy h=>.inl h,λy L' hy hL=>?_,λb hb=>⟨hb,rfl⟩⟩;simp only at hL;split at hL
  ·rename_i e;subst e;exact absurd hy hY
  ·exact hL
 rcases h with⟨rfl,rfl,rfl⟩|⟨gb,cap,arr,bs',rfl,rfl,e1,e2,e3,e4,e5,e6⟩
 ·refine⟨⟨λx=>if x=Y then some ⟨0,0,sz,true⟩else m.μ x,λx=>m.U x\/x=Y,m.w,m.F⟩,λx hx=>by simp[hx],λx=>.rfl,rfl,rfl,key _,⟨rfl,.inr rfl,none,0,rfl,λL hL=>?_⟩,.inr rfl,⟨0,0,sz,true⟩,by simp,rfl,.inl ⟨rfl,rfl,rfl⟩⟩
  simp only[GK,AU]at hL;subst hL;exact .inl ⟨rfl,rfl,rfl,rfl⟩
 ·refine⟨⟨λx=>if x=Y then some ⟨gb,cap,sz,false⟩else m.μ x,λx=>m.U x\/x=Y,m.w,m.F⟩,λx hx=>by simp[hx],λx=>.rfl,rfl,rfl,key _,⟨rfl,.inr rfl,_,cap,rfl,λL hL=>?_⟩,.inr rfl,⟨gb,cap,sz,false⟩,by simp,rfl,.inr ⟨rfl,arr,bs',rfl,e1,e2,e3,e4,e5,VCs.mono (key _) l (λ_ _=>rfl) e6⟩⟩
  simp only[GK,AU]at hL;subst hL;exact .inr ⟨rfl,by simp only;omega,0,by simp,λ_=>by simp⟩
theorem VM{A B ex:List Nat}{R:Zs}{z:AK×List Nat}(G:Good m0 m N (z::R) ex)(hp:z.2.Perm A):(A++ex).Nodup/\∀b∈A++ex,b<m.w.heap.size/\¬m.F b/\(b∈z.2\/b∈ex):=by
 have h:=G.own;simp only[CF]at h
 have h1:(z.2++ex).Nodup:=by
  have:(z.2++Zs.own R++ex).Perm ((z.2++ex)++Zs.own R):=by
   rw[AF,AF];exact BO _ Aw
  exact(AL.1 (this.nodup_iff.1 h)).1
 refine⟨(hp.append_right ex).nodup_iff.1 h1,λb hb=>?_⟩;have hb':=(hp.append_right ex).mem_iff.2 hb;have:=G.blk b (by simp only[CF];rcases AN.1 hb' with h|h<;>simp[h]);exact⟨this.1,this.2,AN.1 hb'⟩
theorem VL{A ex:List Nat}{R zs:Zs}(G:Good m0 m N (zs++R) ex)(hp:zs.own.Perm A):(A++ex).Nodup/\∀b∈A++ex,b<m.w.heap.size/\¬m.F b/\(b∈zs.own\/b∈ex):=by
 have h:=G.own;rw[EE]at h
 have h1:(zs.own++ex).Nodup:=by
  have:(zs.own++Zs.own R++ex).Perm ((zs.own++ex)++Zs.own R):=by
   rw[AF,AF];exact BO _ Aw
  exact(AL.1 (this.nodup_iff.1 h)).1
 refine⟨(hp.append_right ex).nodup_iff.1 h1,λb hb=>?_⟩;have hb':=(hp.append_right ex).mem_iff.2 hb;have:=G.blk b (by rw[EE];rcases AN.1 hb' with h|h<;>simp[h]);exact⟨this.1,this.2,AN.1 hb'⟩
theorem Good.thawIn{t t2:TypeId}{sz sz2:Nat}{l l2 l2':List AV}(G:Good m0 m N (((Y,.row t2 sz2 l2),bs)::R) ex)(hI:Hos (.lst true t sz l) (.sl N 0 l.length) l2 l2'):
  ∃m' b1 b2,m'.w=m.w/\m.Le m' /\Good m0 m' (N+1) (((N,.row t sz l),b1)::((Y,.row t2 sz2 l2'),b2)::R) ex:=by
 have hY:ORel m Y (.row t2 sz2 l2) bs:=G.obj _ (A4 ..);have hYN:Y<N:=G.keyN Y (by simp[Zs.keys]);have hNU:¬m.U N:=λh=>HA _ (G.usedN _ h)
 obtain⟨c0,B,bs',hp,hv,k⟩:=hI.orel rfl hY;obtain⟨m',hμ,hU,hw,hF,hle,hv',ho⟩:=T6 hNU hv;obtain⟨bs2,hp2,hoY⟩:=k m' [] hle hw (λL hL=>by rw[hμ Y (by omega)];exact hL) hv';have hp3:bs.Perm (B++bs2):=hp.trans (by simpa using hp2.symm.append_left B);obtain⟨hn,hb⟩:=VM (B:=[]) G hp3;refine⟨m',B,bs2,hw,hle,Good.swap (zs:=[((Y,.row t2 sz2 l2),bs)]) (zs':=[((N,.row t sz l),B),((Y,.row t2 sz2 l2'),bs2)]) (R:=R) G hle (Nat.le_succ _) (λx hx hxN=>hμ x (by omega)) (λb _ _ _=>by rw[hw]) ?_ (by simpa[Zs.own]using hn) (λb h=>?_) (λb h=>?_) ?_ ?_ (λx hx=>?_) (by rw[hw]) (by rw[hw]) (by rw[hw]) (by rw[hw];exact AP _)⟩
 ·intro z hz
  simp only[AW,DK,II]at hz;rcases hz with rfl|rfl
  ·exact ho
  ·exact hoY
 ·obtain⟨h1,h2,h3⟩:=hb b (by simpa[Zs.own]using h)
  rw[hw,hF];refine⟨h1,h2,?_⟩;rcases h3 with h3|h3
  ·exact .inl (by simpa[Zs.own]using h3)
  ·exact .inr (.inl h3)
 ·rw[hF]at h
  rw[hw];exact⟨G.frz b h,.inl h⟩
 ·simp[Zs.keys];omega
 ·intro x hx
  simp only[Zs.keys,AR,Bj,AW,DK,II]at hx;rcases hx with rfl|rfl
  ·exact⟨by omega,.inr (AP _)⟩
  ·exact⟨by omega,.inl (by simp[Zs.keys])⟩
 ·rcases(hU x).1 hx with hx|rfl
  ·exact⟨by have:=G.usedN x hx;omega,.inl hx⟩
  ·exact⟨by omega,.inr (.inr (AP _))⟩
theorem Good.closeIn{X Y n:Nat}{t t2:TypeId}{sz sz2:Nat}{l l2 l2':List AV}{bX bs:List Nat}(G:Good m0 m N (((X,.row t sz l),bX)::((Y,.row t2 sz2 l2),bs)::R) ex)(hn:n=l.length)(hI:Hos (.sl X 0 n) (.lst true t sz l) l2 l2'):
  ∃m' b2,m'.w=m.w/\m.Le m' /\Good m0 m' N (((X,.used),[])::((Y,.row t2 sz2 l2'),b2)::R) ex:=by
 have hX:ORel m X (.row t sz l) bX:=G.obj _ (A4 ..);have hY:ORel m Y (.row t2 sz2 l2) bs:=G.obj ((Y,.row t2 sz2 l2),bs) (by simp)
 have hXY:Y≠X:=by
  have:=G.keys;simp only[Zs.keys,AR,Bs,AW,not_or]at this;exact λe=>this.1.1 e.symm
 let m':Mem:=⟨λx=>if x=X then none else m.μ x,m.U,m.w,m.F⟩
 have hle:m.Le m':=by
  refine⟨λy h=>h,λy L' hy hL=>?_,λb hb=>⟨hb,rfl⟩⟩;simp only[m']at hL;split at hL
  ·cases hL
  ·exact hL
 obtain⟨c0,B,bs',hp,hv,k⟩:=hI.orel rfl hY;obtain⟨rfl,hUX,A,q,rfl,hs⟩:=hv
 have hv':VC m' (.lst true t sz l) [.slice A n q] bX:=by
  obtain⟨_,L,hL,hsz,hO⟩:=hX;subst hn;rcases hO with⟨h1,rfl,rfl⟩|⟨h1,arr,bs',rfl,h2,h3,h4,h5,h6,h7⟩
  ·rcases hs L hL with⟨_,h,_⟩|⟨h,_⟩
   ·rw[h];exact .inl ⟨rfl,rfl,rfl⟩
   ·rw[h1]at h;cases h
  ·rcases hs L hL with⟨h,_⟩|⟨_,h8,o,h9,h10⟩
   ·rw[h1]at h;cases h
   ·rw[h9]
    have:o=0:=by rw[h10 (.inr rfl),Fb]
    subst this;exact .inr ⟨L.blk,L.cap,arr,bs',rfl,rfl,h2,h3,h4,h5,h6,VCs.mono hle l (λ_ _=>rfl) h7⟩
 obtain⟨bs2,hp2,hoY⟩:=k m' bX hle rfl (λL hL=>by simp only[m'];rw[Ah hXY];exact hL) hv';have hp3:(bX++bs).Perm bs2:=((hp.append_left bX).trans (by simpa using hp2.symm));obtain⟨hn1,hb1⟩:=VL (zs:=[((X,.row t sz l),bX),((Y,.row t2 sz2 l2),bs)]) (R:=R) (A:=bs2) G (by simpa[Zs.own]using hp3);refine⟨m',bs2,rfl,hle,Good.swap (zs:=[((X,.row t sz l),bX),((Y,.row t2 sz2 l2),bs)]) (zs':=[((X,.used),[]),((Y,.row t2 sz2 l2'),bs2)]) (R:=R) G hle (AP _) (λx hx _=>?_) (λb _ _ _=>rfl) ?_ (by simpa[Zs.own]using hn1) (λb h=>?_) (λb h=>⟨G.frz b h,.inl h⟩) ?_ ?_ (λx hx=>⟨G.usedN x hx,.inl hx⟩) rfl rfl rfl (AP _)⟩
 ·simp only[Zs.keys,AR,Bj,AW,DK,II,not_or]at hx
  simp only[m'];rw[Ah hx.1]
 ·intro z hz
  simp only[AW,DK,II]at hz;rcases hz with rfl|rfl
  ·exact⟨rfl,hX.1⟩
  ·exact hoY
 ·obtain⟨h1,h2,h3⟩:=hb1 b (by simpa[Zs.own]using h)
  refine⟨h1,h2,?_⟩;rcases h3 with h3|h3
  ·exact .inl h3
  ·exact .inr (.inl h3)
 ·simp[Zs.keys];exact λe=>hXY e.symm
 ·intro x hx
  simp only[Zs.keys,AR,Bj,AW,DK,II]at hx;rcases hx with rfl|rfl
  ·exact⟨G.keyN _ (by simp[Zs.keys]),.inl (by simp[Zs.keys])⟩
  ·exact⟨G.keyN _ (by simp[Zs.keys]),.inl (by simp[Zs.keys])⟩
end
section
variable {nt:Nat}{st:St}
theorem St.thawIn{q Y:Nat}{t t2:TypeId}{sz sz2:Nat}{l l2:List AV}(hq:At st.S q (Y,.row t2 sz2 l2))(hI:∀X,Hos (.lst true t sz l) (.sl X 0 l.length) l2 (l2' X)):Fu nt st λst'=>∃X,st'=⟨st.T,(X,.row t sz l)::st.S.set q (Y,.row t2 sz2 (l2' X))⟩:=by
 rintro m0 a w ⟨m,N,Z,rfl,h2,h3,h4⟩;obtain⟨bs,hz⟩:=hq.z h2;obtain⟨R,hp1,hp2⟩:=DC hz;obtain⟨m',b1,b2,hw,hle,G'⟩:=(h3.perm hp1).thawIn (hI N);exact⟨⟨st.T,(N,.row t sz l)::st.S.set q (Y,.row t2 sz2 (l2' N))⟩,⟨m',N+1,((N,.row t sz l),b1)::Z.set q ((Y,.row t2 sz2 (l2' N)),b2),hw,by rw[AR,A8,h2],G'.perm ((hp2 _).symm.cons _),h4.mono hle⟩,N,rfl⟩
theorem St.closeIn{p q X Y n:Nat}{t t2:TypeId}{sz sz2:Nat}{l l2 l2':List AV}(hpq:p≠q)(hS:At st.S p (X,.row t sz l))(hq:At st.S q (Y,.row t2 sz2 l2))(hn:n=l.length)(hI:Hos (.sl X 0 n) (.lst true t sz l) l2 l2'):Fu nt st λst'=>st'=⟨st.T,(st.S.set p (X,.used)).set q (Y,.row t2 sz2 l2')⟩:=by
 rintro m0 a w ⟨m,N,Z,rfl,h2,h3,h4⟩;obtain⟨bs,hz⟩:=hS.z h2;obtain⟨bs2,hz2⟩:=hq.z h2;obtain⟨R,hp1,hp2⟩:=Hf hpq hz hz2;obtain⟨m',b2,hw,hle,G'⟩:=(h3.perm hp1).closeIn hn hI;exact⟨⟨st.T,(st.S.set p (X,.used)).set q (Y,.row t2 sz2 l2')⟩,⟨m',N,(Z.set p ((X,.used),[])).set q ((Y,.row t2 sz2 l2'),b2),hw,by rw[A8,A8,h2],G'.perm (hp2 _ _).symm,h4.mono hle⟩,rfl⟩
end
end
section
variable {ro:Option Nat}
theorem HU{S as bs:List AK}{rs ws:List (Nat×AK)}(h:Pos S as bs rs ws:=by(repeat (first|exact .nil|(apply Pos.cons;exact AY)))):Pos S as bs rs ws:=h
section
variable {P:Program}{nt:Nat}{ops:Array Oper}{Q:Exit->St->Prop}{l rest:List Oper}{acc:List Eff}{T:List (Nat×AV)}{S:List AK}{rS wS:List (Nat×AK)}{v:AV}{ty:TypeId}{pos:String}{after:Array Edge}{dst:Option Tmp}{ats:Array TypeId}{f:FuncId}{r:AV}{Sin Sout news:List AK}{c:Option (List Bool)}{code:Code}
def Dj:List Nat->Bool
 |[]=>true
 |a::l=>!(l.any (Nat.beq a))&&Dj l
theorem De:∀{l:List Nat},Dj l=true->l.Nodup
 |[],_=>.nil
 |a::l,h=>by
  simp only[Dj,AE,Du,CR]at h;exact Bs.2 ⟨λhm=>h.1 a hm (by simp),De h.2⟩
theorem CE{q Y:Nat}{t t2:TypeId}{sz sz2:Nat}{ll l2:List AV}(hq:At S q (Y,.row t2 sz2 l2))(hI:∀X,Hos (.lst true t sz ll) (.sl X 0 ll.length) l2 (l2' X))(k:∀X,AWP ro P nt code Q ⟨T,(X,.row t sz ll)::S.set q (Y,.row t2 sz2 (l2' X))⟩):AWP ro P nt code Q ⟨T,S⟩:=
 .ghost (St.thawIn (st:=⟨T,S⟩) hq hI) λst' ⟨X,e⟩=>by subst e;exact k X
theorem Bg{p q X Y n:Nat}{t t2:TypeId}{sz sz2:Nat}{ll l2 l2':List AV}(hS:At S p (X,.row t sz ll))(hq:At S q (Y,.row t2 sz2 l2))(hpq:Nat.beq p q=false)(hn:n=ll.length)(hI:Hos (.sl X 0 n) (.lst true t sz ll) l2 l2')(k:AWP ro P nt code Q ⟨T,(S.set p (X,.used)).set q (Y,.row t2 sz2 l2')⟩):AWP ro P nt code Q ⟨T,S⟩:=
 .ghost (St.closeIn (st:=⟨T,S⟩) (λe=>by subst e;simp at hpq) hS hq hn hI) λst' e=>by subst e;exact k
theorem HQ(h0:Rd c T x0 v0)(h:Spec P f ([v0]) Sin λr' S'=>r'=r/\S'=Sout)(hT:TR r v news)(hpos:Pos S (Sin++Cd news) (Sout++news) rS wS)(hnd:Dj (rS.map (·.1))=true)(ht:BT [(x0,v0)]=true):Stp c P ⟨dst,.call ⟨.value (.func f),#[x0],ats⟩,ty,pos,after,g⟩ T S [(x0,v0)] rS v wS:=⟨E5 (xs:=[(x0,v0)]) h ht hT hpos.all.1 hpos.all.2.1 hpos.all.2.2.1 (De hnd),(.cons h0 .nil),hpos.all.2.2.2⟩
theorem Nv(h:Spec P f ([v0]) Sin λr' S'=>r'=r/\S'=Sout)(hT:TR r v news)(k:AOps ro P nt ops Q rest ⟨A6 T dst v,A5 S wS⟩)(h0:Rd none T x0 v0:=by rfl)(hpos:Pos S (Sin++Cd news) (Sout++news) rS wS:=by exact HU)(hnd:Dj (rS.map (·.1))=true:=by rfl)(ht:BT [(x0,v0)]=true:=by rfl)(hd:Ao dst nt=true:=by rfl):AOps ro P nt ops Q (⟨dst,.call ⟨.value (.func f),#[x0],ats⟩,ty,pos,after,none⟩::rest) ⟨T,S⟩:=CM (HQ h0 h hT hpos hnd ht) hd k
theorem Lm(h:Spec P f ([v0]) Sin λr' S'=>r'=r/\S'=Sout)(hT:TR r v news)(k:RGo P nt ops l Q rest (acc++[⟨⟨dst,.call ⟨.value (.func f),#[x0],ats⟩,ty,pos,after,g⟩,ts++BZ [(x0,v0)],rS.map (·.1),v,wS⟩]) ⟨A6 T dst v,A5 S wS⟩)(h0:Rd none T x0 v0:=by rfl)(hpos:Pos S (Sin++Cd news) (Sout++news) rS wS:=by exact HU)(hnd:Dj (rS.map (·.1))=true:=by rfl)(ht:BT [(x0,v0)]=true:=by rfl)(hd:Ao dst nt=true:=by rfl)(hg:Grd ops T g ts:=by first|exact .none|exact .met rfl rfl (by first|rfl|assumption)):RGo P nt ops l Q (⟨dst,.call ⟨.value (.func f),#[x0],ats⟩,ty,pos,after,g⟩::rest) acc ⟨T,S⟩:=HT (HQ h0 h hT hpos hnd ht) hd hg k
theorem Td{C:β->Prop}{rr vv:β->AV}{X p:Nat}{ob:AO}{oo:β->AO}(h:Spec P f [v0] [(X,ob)] λr' S'=>∃b,C b/\r'=rr b/\S'=[(X,oo b)])[hf:∀b,Frz (rr b) (vv b)](k:∀b,C b->AOps ro P nt ops Q rest ⟨A6 T dst (vv b),A5 S [(p,(X,oo b))]⟩)(hSp:At S p (X,ob):=by exact AY)(h0:Rd none T x0 v0:=by rfl)(ht:BT [(x0,v0)]=true:=by rfl)(hd:Ao dst nt=true:=by rfl):AOps ro P nt ops Q (⟨dst,.call ⟨.value (.func f),#[x0],ats⟩,ty,pos,after,none⟩::rest) ⟨T,S⟩:=Fx (xs:=[(x0,v0)]) (rS:=[(p,(X,ob))]) (nw:=λ_=>[]) (wE:=λb=>[(p,(X,oo b))]) h (λb=>.fz) (λ_=>rfl) (λ_=>.cons hSp .nil) (by simp) rfl (.cons hSp .nil) (.cons h0 .nil) ht hd k
theorem Us{t:TypeId}{ll:List AV}(h:PS P f ([v0]) (.lst true t sz ll))(k:∀Y,AOps ro P nt ops Q rest ⟨A6 T dst (.sl Y 0 ll.length),(Y,.row t sz ll)::S⟩)(h0:Rd none T x0 v0:=by rfl)(ht:BT [(x0,v0)]=true:=by rfl)(hd:Ao dst nt=true:=by rfl):AOps ro P nt ops Q (⟨dst,.call ⟨.value (.func f),#[x0],ats⟩,ty,pos,after,none⟩::rest) ⟨T,S⟩:=Fe λY=>CM (HQ h0 h (.ls (Y:=Y)) (.cons .here .nil) rfl ht) hd (k Y)
theorem GI{t:TypeId}{sz q Y:Nat}{ll:List AV}(h:PS P f ([v0]) (.lst true t sz ll))(k:RGo P nt ops l Q rest (acc++[⟨⟨dst,.call ⟨.value (.func f),#[x0],ats⟩,ty,pos,after,g⟩,ts++BZ [(x0,v0)],[q],.sl Y 0 ll.length,[(q,(Y,.row t sz ll))]⟩]) ⟨A6 T dst (.sl Y 0 ll.length),A5 S [(q,(Y,.row t sz ll))]⟩)(hSq:At S q (Y,.gone):=by exact AY)(h0:Rd none T x0 v0:=by rfl)(ht:BT [(x0,v0)]=true:=by rfl)(hd:Ao dst nt=true:=by rfl)(hg:Grd ops T g ts:=by first|exact .none|exact .met rfl rfl (by first|rfl|assumption)):RGo P nt ops l Q (⟨dst,.call ⟨.value (.func f),#[x0],ats⟩,ty,pos,after,g⟩::rest) acc ⟨T,S⟩:=HT (HQ h0 h (.ls (Y:=Y)) (.cons hSq .nil) rfl ht) hd hg k
theorem Rg(hx:Rd c T x (.fn f cap))(h0:Rd c T x0 v0)(h:Spec P f (v0::cap) Sin λr' S'=>r'=r/\S'=Sout)(hT:TR r v news)(hpos:Pos S (Sin++Cd news) (Sout++news) rS wS)(hnd:Dj (rS.map (·.1))=true)(hs:DG cap=true)(ht:BT [(x0,v0)]=true):Stp c P ⟨dst,.call ⟨.value x,#[x0],ats⟩,ty,pos,after,g⟩ T S [(x,.fn f cap),(x0,v0)] rS v wS:=⟨P3 (xs:=[(x0,v0)]) h hs ht hT hpos.all.1 hpos.all.2.1 hpos.all.2.2.1 (De hnd),(.cons hx (.cons h0 .nil)),hpos.all.2.2.2⟩
theorem O9(h:Spec P f (v0::cap) Sin λr' S'=>r'=r/\S'=Sout)(hT:TR r v news)(k:AOps ro P nt ops Q rest ⟨A6 T dst v,A5 S wS⟩)(hx:Rd none T x (.fn f cap):=by rfl)(h0:Rd none T x0 v0:=by rfl)(hpos:Pos S (Sin++Cd news) (Sout++news) rS wS:=by exact HU)(hnd:Dj (rS.map (·.1))=true:=by rfl)(hs:DG cap=true:=by rfl)(ht:BT [(x0,v0)]=true:=by rfl)(hd:Ao dst nt=true:=by rfl):AOps ro P nt ops Q (⟨dst,.call ⟨.value x,#[x0],ats⟩,ty,pos,after,none⟩::rest) ⟨T,S⟩:=CM (Rg hx h0 h hT hpos hnd hs ht) hd k
theorem O1(h0:Rd c T x0 v0)(h1:Rd c T x1 v1)(h:Spec P f ([v0,v1]) Sin λr' S'=>r'=r/\S'=Sout)(hT:TR r v news)(hpos:Pos S (Sin++Cd news) (Sout++news) rS wS)(hnd:Dj (rS.map (·.1))=true)(ht:BT [(x0,v0),(x1,v1)]=true):Stp c P ⟨dst,.call ⟨.value (.func f),#[x0,x1],ats⟩,ty,pos,after,g⟩ T S [(x0,v0),(x1,v1)] rS v wS:=⟨E5 (xs:=[(x0,v0),(x1,v1)]) h ht hT hpos.all.1 hpos.all.2.1 hpos.all.2.2.1 (De hnd),(.cons h0 (.cons h1 .nil)),hpos.all.2.2.2⟩
theorem Fd(h:Spec P f ([v0,v1]) Sin λr' S'=>r'=r/\S'=Sout)(hT:TR r v news)(k:AOps ro P nt ops Q rest ⟨A6 T dst v,A5 S wS⟩)(h0:Rd none T x0 v0:=by rfl)(h1:Rd none T x1 v1:=by rfl)(hpos:Pos S (Sin++Cd news) (Sout++news) rS wS:=by exact HU)(hnd:Dj (rS.map (·.1))=true:=by rfl)(ht:BT [(x0,v0),(x1,v1)]=true:=by rfl)(hd:Ao dst nt=true:=by rfl):AOps ro P nt ops Q (⟨dst,.call ⟨.value (.func f),#[x0,x1],ats⟩,ty,pos,after,none⟩::rest) ⟨T,S⟩:=CM (O1 h0 h1 h hT hpos hnd ht) hd k
theorem Nn(h:Spec P f ([v0,v1]) Sin λr' S'=>r'=r/\S'=Sout)(hT:TR r v news)(k:RGo P nt ops l Q rest (acc++[⟨⟨dst,.call ⟨.value (.func f),#[x0,x1],ats⟩,ty,pos,after,g⟩,ts++BZ [(x0,v0),(x1,v1)],rS.map (·.1),v,wS⟩]) ⟨A6 T dst v,A5 S wS⟩)(h0:Rd none T x0 v0:=by rfl)(h1:Rd none T x1 v1:=by rfl)(hpos:Pos S (Sin++Cd news) (Sout++news) rS wS:=by exact HU)(hnd:Dj (rS.map (·.1))=true:=by rfl)(ht:BT [(x0,v0),(x1,v1)]=true:=by rfl)(hd:Ao dst nt=true:=by rfl)(hg:Grd ops T g ts:=by first|exact .none|exact .met rfl rfl (by first|rfl|assumption)):RGo P nt ops l Q (⟨dst,.call ⟨.value (.func f),#[x0,x1],ats⟩,ty,pos,after,g⟩::rest) acc ⟨T,S⟩:=HT (O1 h0 h1 h hT hpos hnd ht) hd hg k
theorem U2{C:β->Prop}{rr vv:β->AV}(h:Spec P f [v0,v1] [] λr' S'=>∃b,C b/\r'=rr b/\S'=[])[hf:∀b,Frz (rr b) (vv b)](k:∀b,C b->AOps ro P nt ops Q rest ⟨A6 T dst (vv b),S⟩)(h0:Rd none T x0 v0:=by rfl)(h1:Rd none T x1 v1:=by rfl)(ht:BT [(x0,v0),(x1,v1)]=true:=by rfl)(hd:Ao dst nt=true:=by rfl):AOps ro P nt ops Q (⟨dst,.call ⟨.value (.func f),#[x0,x1],ats⟩,ty,pos,after,none⟩::rest) ⟨T,S⟩:=Fx (xs:=[(x0,v0),(x1,v1)]) (nw:=λ_=>[]) (wE:=λ_=>[]) h (λb=>.fz) (λ_=>rfl) (λ_=>.nil) .nil rfl .nil (.cons h0 (.cons h1 .nil)) ht hd k
theorem O0(h0:Rd c T x0 v0)(h1:Rd c T x1 v1)(h2:Rd c T x2 v2)(h:Spec P f ([v0,v1,v2]) Sin λr' S'=>r'=r/\S'=Sout)(hT:TR r v news)(hpos:Pos S (Sin++Cd news) (Sout++news) rS wS)(hnd:Dj (rS.map (·.1))=true)(ht:BT [(x0,v0),(x1,v1),(x2,v2)]=true):Stp c P ⟨dst,.call ⟨.value (.func f),#[x0,x1,x2],ats⟩,ty,pos,after,g⟩ T S [(x0,v0),(x1,v1),(x2,v2)] rS v wS:=⟨E5 (xs:=[(x0,v0),(x1,v1),(x2,v2)]) h ht hT hpos.all.1 hpos.all.2.1 hpos.all.2.2.1 (De hnd),(.cons h0 (.cons h1 (.cons h2 .nil))),hpos.all.2.2.2⟩
theorem I8(h:Spec P f ([v0,v1,v2]) Sin λr' S'=>r'=r/\S'=Sout)(hT:TR r v news)(k:AOps ro P nt ops Q rest ⟨A6 T dst v,A5 S wS⟩)(h0:Rd none T x0 v0:=by rfl)(h1:Rd none T x1 v1:=by rfl)(h2:Rd none T x2 v2:=by rfl)(hpos:Pos S (Sin++Cd news) (Sout++news) rS wS:=by exact HU)(hnd:Dj (rS.map (·.1))=true:=by rfl)(ht:BT [(x0,v0),(x1,v1),(x2,v2)]=true:=by rfl)(hd:Ao dst nt=true:=by rfl):AOps ro P nt ops Q (⟨dst,.call ⟨.value (.func f),#[x0,x1,x2],ats⟩,ty,pos,after,none⟩::rest) ⟨T,S⟩:=CM (O0 h0 h1 h2 h hT hpos hnd ht) hd k
theorem Nm(h:Spec P f ([v0,v1,v2]) Sin λr' S'=>r'=r/\S'=Sout)(hT:TR r v news)(k:RGo P nt ops l Q rest (acc++[⟨⟨dst,.call ⟨.value (.func f),#[x0,x1,x2],ats⟩,ty,pos,after,g⟩,ts++BZ [(x0,v0),(x1,v1),(x2,v2)],rS.map (·.1),v,wS⟩]) ⟨A6 T dst v,A5 S wS⟩)(h0:Rd none T x0 v0:=by rfl)(h1:Rd none T x1 v1:=by rfl)(h2:Rd none T x2 v2:=by rfl)(hpos:Pos S (Sin++Cd news) (Sout++news) rS wS:=by exact HU)(hnd:Dj (rS.map (·.1))=true:=by rfl)(ht:BT [(x0,v0),(x1,v1),(x2,v2)]=true:=by rfl)(hd:Ao dst nt=true:=by rfl)(hg:Grd ops T g ts:=by first|exact .none|exact .met rfl rfl (by first|rfl|assumption)):RGo P nt ops l Q (⟨dst,.call ⟨.value (.func f),#[x0,x1,x2],ats⟩,ty,pos,after,g⟩::rest) acc ⟨T,S⟩:=HT (O0 h0 h1 h2 h hT hpos hnd ht) hd hg k
theorem U1{C:β->Prop}{rr vv:β->AV}(h:Spec P f [v0,v1,v2] [] λr' S'=>∃b,C b/\r'=rr b/\S'=[])[hf:∀b,Frz (rr b) (vv b)](k:∀b,C b->AOps ro P nt ops Q rest ⟨A6 T dst (vv b),S⟩)(h0:Rd none T x0 v0:=by rfl)(h1:Rd none T x1 v1:=by rfl)(h2:Rd none T x2 v2:=by rfl)(ht:BT [(x0,v0),(x1,v1),(x2,v2)]=true:=by rfl)(hd:Ao dst nt=true:=by rfl):AOps ro P nt ops Q (⟨dst,.call ⟨.value (.func f),#[x0,x1,x2],ats⟩,ty,pos,after,none⟩::rest) ⟨T,S⟩:=Fx (xs:=[(x0,v0),(x1,v1),(x2,v2)]) (nw:=λ_=>[]) (wE:=λ_=>[]) h (λb=>.fz) (λ_=>rfl) (λ_=>.nil) .nil rfl .nil (.cons h0 (.cons h1 (.cons h2 .nil))) ht hd k
theorem TD(h0:Rd c T x0 v0)(h1:Rd c T x1 v1)(h2:Rd c T x2 v2)(h3:Rd c T x3 v3)(h:Spec P f ([v0,v1,v2,v3]) Sin λr' S'=>r'=r/\S'=Sout)(hT:TR r v news)(hpos:Pos S (Sin++Cd news) (Sout++news) rS wS)(hnd:Dj (rS.map (·.1))=true)(ht:BT [(x0,v0),(x1,v1),(x2,v2),(x3,v3)]=true):Stp c P ⟨dst,.call ⟨.value (.func f),#[x0,x1,x2,x3],ats⟩,ty,pos,after,g⟩ T S [(x0,v0),(x1,v1),(x2,v2),(x3,v3)] rS v wS:=⟨E5 (xs:=[(x0,v0),(x1,v1),(x2,v2),(x3,v3)]) h ht hT hpos.all.1 hpos.all.2.1 hpos.all.2.2.1 (De hnd),(.cons h0 (.cons h1 (.cons h2 (.cons h3 .nil)))),hpos.all.2.2.2⟩
theorem Nu(h:Spec P f ([v0,v1,v2,v3]) Sin λr' S'=>r'=r/\S'=Sout)(hT:TR r v news)(k:AOps ro P nt ops Q rest ⟨A6 T dst v,A5 S wS⟩)(h0:Rd none T x0 v0:=by rfl)(h1:Rd none T x1 v1:=by rfl)(h2:Rd none T x2 v2:=by rfl)(h3:Rd none T x3 v3:=by rfl)(hpos:Pos S (Sin++Cd news) (Sout++news) rS wS:=by exact HU)(hnd:Dj (rS.map (·.1))=true:=by rfl)(ht:BT [(x0,v0),(x1,v1),(x2,v2),(x3,v3)]=true:=by rfl)(hd:Ao dst nt=true:=by rfl):AOps ro P nt ops Q (⟨dst,.call ⟨.value (.func f),#[x0,x1,x2,x3],ats⟩,ty,pos,after,none⟩::rest) ⟨T,S⟩:=CM (TD h0 h1 h2 h3 h hT hpos hnd ht) hd k
theorem Tc{C:β->Prop}{rr vv:β->AV}{X p:Nat}{ob:AO}{oo:β->AO}(h:Spec P f [v0,v1,v2,v3] [(X,ob)] λr' S'=>∃b,C b/\r'=rr b/\S'=[(X,oo b)])[hf:∀b,Frz (rr b) (vv b)](k:∀b,C b->AOps ro P nt ops Q rest ⟨A6 T dst (vv b),A5 S [(p,(X,oo b))]⟩)(hSp:At S p (X,ob):=by exact AY)(h0:Rd none T x0 v0:=by rfl)(h1:Rd none T x1 v1:=by rfl)(h2:Rd none T x2 v2:=by rfl)(h3:Rd none T x3 v3:=by rfl)(ht:BT [(x0,v0),(x1,v1),(x2,v2),(x3,v3)]=true:=by rfl)(hd:Ao dst nt=true:=by rfl):AOps ro P nt ops Q (⟨dst,.call ⟨.value (.func f),#[x0,x1,x2,x3],ats⟩,ty,pos,after,none⟩::rest) ⟨T,S⟩:=Fx (xs:=[(x0,v0),(x1,v1),(x2,v2),(x3,v3)]) (rS:=[(p,(X,ob))]) (nw:=λ_=>[]) (wE:=λb=>[(p,(X,oo b))]) h (λb=>.fz) (λ_=>rfl) (λ_=>.cons hSp .nil) (by simp) rfl (.cons hSp .nil) (.cons h0 (.cons h1 (.cons h2 (.cons h3 .nil)))) ht hd k
theorem TC(h0:Rd c T x0 v0)(h1:Rd c T x1 v1)(h2:Rd c T x2 v2)(h3:Rd c T x3 v3)(h4:Rd c T x4 v4)(h:Spec P f ([v0,v1,v2,v3,v4]) Sin λr' S'=>r'=r/\S'=Sout)(hT:TR r v news)(hpos:Pos S (Sin++Cd news) (Sout++news) rS wS)(hnd:Dj (rS.map (·.1))=true)(ht:BT [(x0,v0),(x1,v1),(x2,v2),(x3,v3),(x4,v4)]=true):Stp c P ⟨dst,.call ⟨.value (.func f),#[x0,x1,x2,x3,x4],ats⟩,ty,pos,after,g⟩ T S [(x0,v0),(x1,v1),(x2,v2),(x3,v3),(x4,v4)] rS v wS:=⟨E5 (xs:=[(x0,v0),(x1,v1),(x2,v2),(x3,v3),(x4,v4)]) h ht hT hpos.all.1 hpos.all.2.1 hpos.all.2.2.1 (De hnd),(.cons h0 (.cons h1 (.cons h2 (.cons h3 (.cons h4 .nil))))),hpos.all.2.2.2⟩
theorem Nt(h:Spec P f ([v0,v1,v2,v3,v4]) Sin λr' S'=>r'=r/\S'=Sout)(hT:TR r v news)(k:AOps ro P nt ops Q rest ⟨A6 T dst v,A5 S wS⟩)(h0:Rd none T x0 v0:=by rfl)(h1:Rd none T x1 v1:=by rfl)(h2:Rd none T x2 v2:=by rfl)(h3:Rd none T x3 v3:=by rfl)(h4:Rd none T x4 v4:=by rfl)(hpos:Pos S (Sin++Cd news) (Sout++news) rS wS:=by exact HU)(hnd:Dj (rS.map (·.1))=true:=by rfl)(ht:BT [(x0,v0),(x1,v1),(x2,v2),(x3,v3),(x4,v4)]=true:=by rfl)(hd:Ao dst nt=true:=by rfl):AOps ro P nt ops Q (⟨dst,.call ⟨.value (.func f),#[x0,x1,x2,x3,x4],ats⟩,ty,pos,after,none⟩::rest) ⟨T,S⟩:=CM (TC h0 h1 h2 h3 h4 h hT hpos hnd ht) hd k
theorem PE{C:β->Prop}{rr vv:β->AV}{X p:Nat}{ob:AO}{oo:β->AO}(h:Spec P f [v0,v1,v2,v3,v4] [(X,ob)] λr' S'=>∃b,C b/\r'=rr b/\S'=[(X,oo b)])[hf:∀b,Frz (rr b) (vv b)](k:∀b,C b->AOps ro P nt ops Q rest ⟨A6 T dst (vv b),A5 S [(p,(X,oo b))]⟩)(hSp:At S p (X,ob):=by exact AY)(h0:Rd none T x0 v0:=by rfl)(h1:Rd none T x1 v1:=by rfl)(h2:Rd none T x2 v2:=by rfl)(h3:Rd none T x3 v3:=by rfl)(h4:Rd none T x4 v4:=by rfl)(ht:BT [(x0,v0),(x1,v1),(x2,v2),(x3,v3),(x4,v4)]=true:=by rfl)(hd:Ao dst nt=true:=by rfl):AOps ro P nt ops Q (⟨dst,.call ⟨.value (.func f),#[x0,x1,x2,x3,x4],ats⟩,ty,pos,after,none⟩::rest) ⟨T,S⟩:=Fx (xs:=[(x0,v0),(x1,v1),(x2,v2),(x3,v3),(x4,v4)]) (rS:=[(p,(X,ob))]) (nw:=λ_=>[]) (wE:=λb=>[(p,(X,oo b))]) h (λb=>.fz) (λ_=>rfl) (λ_=>.cons hSp .nil) (by simp) rfl (.cons hSp .nil) (.cons h0 (.cons h1 (.cons h2 (.cons h3 (.cons h4 .nil))))) ht hd k
theorem TB{v5:AV}(h0:Rd c T x0 v0)(h1:Rd c T x1 v1)(h2:Rd c T x2 v2)(h3:Rd c T x3 v3)(h4:Rd c T x4 v4)(h5:Rd c T x5 v5)(h:Spec P f ([v0,v1,v2,v3,v4,v5]) Sin λr' S'=>r'=r/\S'=Sout)(hT:TR r v news)(hpos:Pos S (Sin++Cd news) (Sout++news) rS wS)(hnd:Dj (rS.map (·.1))=true)(ht:BT [(x0,v0),(x1,v1),(x2,v2),(x3,v3),(x4,v4),(x5,v5)]=true):Stp c P ⟨dst,.call ⟨.value (.func f),#[x0,x1,x2,x3,x4,x5],ats⟩,ty,pos,after,g⟩ T S [(x0,v0),(x1,v1),(x2,v2),(x3,v3),(x4,v4),(x5,v5)] rS v wS:=⟨E5 (xs:=[(x0,v0),(x1,v1),(x2,v2),(x3,v3),(x4,v4),(x5,v5)]) h ht hT hpos.all.1 hpos.all.2.1 hpos.all.2.2.1 (De hnd),(.cons h0 (.cons h1 (.cons h2 (.cons h3 (.cons h4 (.cons h5 .nil)))))),hpos.all.2.2.2⟩
theorem Ql{v5:AV}(h:Spec P f ([v0,v1,v2,v3,v4,v5]) Sin λr' S'=>r'=r/\S'=Sout)(hT:TR r v news)(k:AOps ro P nt ops Q rest ⟨A6 T dst v,A5 S wS⟩)(h0:Rd none T x0 v0:=by rfl)(h1:Rd none T x1 v1:=by rfl)(h2:Rd none T x2 v2:=by rfl)(h3:Rd none T x3 v3:=by rfl)(h4:Rd none T x4 v4:=by rfl)(h5:Rd none T x5 v5:=by rfl)(hpos:Pos S (Sin++Cd news) (Sout++news) rS wS:=by exact HU)(hnd:Dj (rS.map (·.1))=true:=by rfl)(ht:BT [(x0,v0),(x1,v1),(x2,v2),(x3,v3),(x4,v4),(x5,v5)]=true:=by rfl)(hd:Ao dst nt=true:=by rfl):AOps ro P nt ops Q (⟨dst,.call ⟨.value (.func f),#[x0,x1,x2,x3,x4,x5],ats⟩,ty,pos,after,none⟩::rest) ⟨T,S⟩:=CM (TB h0 h1 h2 h3 h4 h5 h hT hpos hnd ht) hd k
end
end
section
variable {ro:Option Nat}
section
variable {P:Program}{nt:Nat}{c:Code}{ops:Array Oper}{rest:List Oper}{Q:Exit->St->Prop}{T:List (Nat×AV)}{S:List AK}{p n X sz:Nat}{t:TypeId}{l:List AV}
theorem Ls(d:Nat)(l':List AV)(he:AV.frzs l=l')(k:AWP ro P nt c Q ⟨(d,.lst false t sz l')::T,S.set p (X,.used)⟩)(hd:BR T d=some (.sl X 0 n):=by rfl)(hS:At S p (X,.row t sz l):=by exact AY)(hn:n=l.length:=by first|rfl|assumption|omega|(simp;omega)|simp[*]):AWP ro P nt c Q ⟨T,S⟩:=
 Uq hd hS hn (he▸k)
end
end
end Go.Proofs.YtmkahplhnbbgmaaGreat
