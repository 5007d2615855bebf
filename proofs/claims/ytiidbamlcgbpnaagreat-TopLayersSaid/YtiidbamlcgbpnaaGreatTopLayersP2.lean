/-
  Part 2 of the texts under the law TopLayers: the layer of abstract values, walks and plain laws. Conditions: those that each theorem names.
-/
import Derived.RangeFuncRecord
import Derived.Lib.SliceRun
import Derived.Test.YtiidbamlcgbpnaaGreatTopLayersP1
namespace Go.Proofs.YtiidbamlcgbpnaaGreat
set_option linter.unusedVariables false
set_option linter.unusedSimpArgs false
set_option linter.defProp false
set_option maxRecDepth 10000
set_option maxHeartbeats 4000000
section
variable {ro:Option Nat}
open Go.RowKit
class TAg(P:Program)(t:TypeId)(b:outParam Bool):Prop where h:M7 P t=some b
class TSize(P:Program)(t:TypeId)(n:outParam Nat):Prop where h:tSz P t=some n
class TEl(P:Program)(t:TypeId)(e:outParam TypeId):Prop where h:CW P t=some e
class TFl(P:Program)(s:TypeId)(f:Nat)(off:outParam Nat)(ft:outParam TypeId):Prop where h:PU P s f=some (off,ft)
class TSt(P:Program)(t:TypeId)(zl:outParam (List Value))(pl:outParam (List (Nat×Nat))):Prop where h:Rk P t=some (zl,pl)
class TZe(P:Program)(t:TypeId)(zl:outParam (List Value)):Prop where h:tZ P t=some zl
class TBy(P:Program)(t:TypeId)(n:outParam Nat):Prop where h:(P.info? t).map (·.bytes)=some n
class TRo(P:Program)(t:TypeId)(te:outParam TypeId)(sz by_:outParam Nat):Prop where h:N0 P t=some (te,sz,by_)
class TSg(P:Program)(t:TypeId):Prop where h:P.underlying t=some .string
def Rd:Option (List Bool)->List (Nat×AV)->Operand->AV->Prop
 |none,T,x,v=>ev T x=some v
 |some cs,T,x,v=>∃w,ev T x=some w/\Strips cs w v
theorem Strips.a1{c:Bool}{v:AV}:Strips [c] (.opt c v) v:=.step (by simp) .refl
theorem Strips.b12{c d:Bool}{v:AV}:Strips [c,d] (.opt c (.opt d v)) v:=.step (by simp) (.step (by simp) .refl)
theorem Rd.q{cs:List Bool}{T:List (Nat×AV)}{x:Operand}{w v:AV}(h:ev T x=some w)(k:Strips cs w v):Rd (some cs) T x v:=⟨w,h,k⟩
inductive Rds(c:Option (List Bool))(T:List (Nat×AV)):List (Operand×AV)->Prop
 |nil:Rds c T []
 |cons {x:Operand} {v:AV} {r:List (Operand×AV)} (h:Rd c T x v) (k:Rds c T r):Rds c T ((x,v)::r)
structure Stp(c:Option (List Bool))(P:Program)(o:Oper)(T:List (Nat×AV))(S:List AC)(xs:List (Operand×AV))(rS:List (Nat×AC))(v:AV)(wS:List (Nat×AC)):Prop where
 op:OpT P o xs rS v wS
 rd:Rds c T xs
 get:Gets S rS
theorem Rds.evs{T:List (Nat×AV)}{xs:List (Operand×AV)}(h:Rds none T xs):Evs T xs:=by
 induction h with
 |nil=>exact .nil
 |cons h _ ih=>exact .cons h ih
theorem Rds.evcs{c:List Bool}{T:List (Nat×AV)}{xs:List (Operand×AV)}(h:Rds (some c) T xs):EvCs c T xs:=by
 induction h with
 |nil=>exact .nil
 |cons h _ ih=>obtain⟨w,h,hs⟩:=h;exact .cons h hs ih
section
variable {P:Program}{nt:Nat}{ops:Array Oper}{Q:Exit->St->Prop}{rest:List Oper}{st':St}{T:List (Nat×AV)}{S:List AC}{xs:List (Operand×AV)}{rS wS:List (Nat×AC)}{v:AV}{effs:List Eff}{op:Op}{ty:TypeId}{pos:String}{after:Array Edge}{dst:Option Tmp}
theorem AOps.p(h:Stp none P ⟨dst,op,ty,pos,after,none⟩ T S xs rS v [])(hd:AU dst nt=true)(k:AOps ro P nt ops Q rest ⟨AW T dst v,S⟩):AOps ro P nt ops Q (⟨dst,op,ty,pos,after,none⟩::rest) ⟨T,S⟩:=.step rfl h.op h.rd.evs h.get hd k
theorem AOps.s(h:Stp none P ⟨dst,op,ty,pos,after,none⟩ T S xs rS v wS)(hd:AU dst nt=true)(k:AOps ro P nt ops Q rest ⟨AW T dst v,AX S wS⟩):AOps ro P nt ops Q (⟨dst,op,ty,pos,after,none⟩::rest) ⟨T,S⟩:=.step rfl h.op h.rd.evs h.get hd k
theorem AOps.sQ{g:Nat}{b b':Bool}{t:Nat}{wg:AV}{cs:List Bool}(ht:(ops[g]?).bind (·.dst)=some t)(hv:Ab T t=some wg)(hc:FY wg=some (cs,b'))(h:Stp (some (cs++[b'==b])) P ⟨dst,op,ty,pos,after,some (g,b)⟩ T S xs rS v [])(hd:AU dst nt=true)(hos:CX xs=true)
  (k:AOps ro P nt ops Q rest ⟨AW T dst (GS (cs++[b'==b]) v),S⟩):AOps ro P nt ops Q (⟨dst,op,ty,pos,after,some (g,b)⟩::rest) ⟨T,S⟩:=.stepQ rfl ht hv hc (λ_=>h.op) h.rd.evcs h.get hd hos k
theorem AOps.sN{g:Nat}{b b':Bool}{t:Nat}(ht:(ops[g]?).bind (·.dst)=some t)(hv:Ab T t=some (.prim (.bool b')))(hb:b'= !b)(hd:AU dst nt=true)(k:AOps ro P nt ops Q rest ⟨AW T dst .dead,S⟩):AOps ro P nt ops Q (⟨dst,op,ty,pos,after,some (g,b)⟩::rest) ⟨T,S⟩:=.skipG rfl ht hv hb hd k
theorem AOps.sQ1{g:Nat}{b b':Bool}{t:Nat}(h:Stp (some [b'==b]) P ⟨dst,op,ty,pos,after,some (g,b)⟩ T S xs rS v [])(ht:(ops[g]?).bind (·.dst)=some t)(hv:Ab T t=some (.prim (.bool b')))(hd:AU dst nt=true)(hos:CX xs=true)
  (k:AOps ro P nt ops Q rest ⟨AW T dst (.opt (b'==b) v),S⟩):AOps ro P nt ops Q (⟨dst,op,ty,pos,after,some (g,b)⟩::rest) ⟨T,S⟩:=AOps.sQ ht hv rfl h hd hos k
theorem AOps.sQ2{c1:Bool}{g:Nat}{b b':Bool}{t:Nat}(h:Stp (some [c1,b'==b]) P ⟨dst,op,ty,pos,after,some (g,b)⟩ T S xs rS v [])(ht:(ops[g]?).bind (·.dst)=some t)(hv:Ab T t=some (.opt c1 (.prim (.bool b'))))(hd:AU dst nt=true)(hos:CX xs=true)
  (k:AOps ro P nt ops Q rest ⟨AW T dst (.opt c1 (.opt (b'==b) v)),S⟩):AOps ro P nt ops Q (⟨dst,op,ty,pos,after,some (g,b)⟩::rest) ⟨T,S⟩:=AOps.sQ ht hv rfl h hd hos k
theorem AOps.sQ3{c1 c2:Bool}{g:Nat}{b b':Bool}{t:Nat}(h:Stp (some [c1,c2,b'==b]) P ⟨dst,op,ty,pos,after,some (g,b)⟩ T S xs rS v [])(ht:(ops[g]?).bind (·.dst)=some t)(hv:Ab T t=some (.opt c1 (.opt c2 (.prim (.bool b')))))(hd:AU dst nt=true)(hos:CX xs=true)
  (k:AOps ro P nt ops Q rest ⟨AW T dst (.opt c1 (.opt c2 (.opt (b'==b) v))),S⟩):AOps ro P nt ops Q (⟨dst,op,ty,pos,after,some (g,b)⟩::rest) ⟨T,S⟩:=AOps.sQ ht hv rfl h hd hos k
theorem Run.p(h:Stp none P ⟨dst,op,ty,pos,after,none⟩ T S xs rS v [])(hd:AU dst nt=true)(k:Run P nt ops rest ⟨AW T dst v,S⟩ effs st'):Run P nt ops (⟨dst,op,ty,pos,after,none⟩::rest) ⟨T,S⟩ (⟨⟨dst,op,ty,pos,after,none⟩,Au xs,rS.map (·.1),v,[]⟩::effs) st':=.step rfl h.op h.rd.evs h.get hd k
theorem Run.s(h:Stp none P ⟨dst,op,ty,pos,after,none⟩ T S xs rS v wS)(hd:AU dst nt=true)(k:Run P nt ops rest ⟨AW T dst v,AX S wS⟩ effs st'):Run P nt ops (⟨dst,op,ty,pos,after,none⟩::rest) ⟨T,S⟩ (⟨⟨dst,op,ty,pos,after,none⟩,Au xs,rS.map (·.1),v,wS⟩::effs) st':=.step rfl h.op h.rd.evs h.get hd k
theorem Run.sG{g:Nat}{b b':Bool}{t:Nat}(ht:(ops[g]?).bind (·.dst)=some t)(hv:Ab T t=some (.prim (.bool b')))(hb:b'=b)(h:Stp none P ⟨dst,op,ty,pos,after,some (g,b)⟩ T S xs rS v wS)(hd:AU dst nt=true)(k:Run P nt ops rest ⟨AW T dst v,AX S wS⟩ effs st'):Run P nt ops (⟨dst,op,ty,pos,after,some (g,b)⟩::rest) ⟨T,S⟩ (⟨⟨dst,op,ty,pos,after,some (g,b)⟩,t::Au xs,rS.map (·.1),v,wS⟩::effs) st':=
 .stepG rfl ht hv hb h.op h.rd.evs h.get hd k
theorem Run.sQ{g:Nat}{b b':Bool}{t:Nat}{wg:AV}{cs:List Bool}(ht:(ops[g]?).bind (·.dst)=some t)(hv:Ab T t=some wg)(hc:FY wg=some (cs,b'))(h:Stp (some (cs++[b'==b])) P ⟨dst,op,ty,pos,after,some (g,b)⟩ T S xs rS v [])(hd:AU dst nt=true)(hos:CX xs=true)
  (k:Run P nt ops rest ⟨AW T dst (GS (cs++[b'==b]) v),S⟩ effs st'):Run P nt ops (⟨dst,op,ty,pos,after,some (g,b)⟩::rest) ⟨T,S⟩ (⟨⟨dst,op,ty,pos,after,some (g,b)⟩,t::Au xs,rS.map (·.1),GS (cs++[b'==b]) v,[]⟩::effs) st':=.stepQ rfl ht hv hc (λ_=>h.op) h.rd.evcs h.get hd hos k
theorem Run.sN{g:Nat}{b b':Bool}{t:Nat}(ht:(ops[g]?).bind (·.dst)=some t)(hv:Ab T t=some (.prim (.bool b')))(hb:b'= !b)(hd:AU dst nt=true)(k:Run P nt ops rest ⟨AW T dst .dead,S⟩ effs st'):Run P nt ops (⟨dst,op,ty,pos,after,some (g,b)⟩::rest) ⟨T,S⟩ (⟨⟨dst,op,ty,pos,after,some (g,b)⟩,[t],[],.dead,[]⟩::effs) st':=.skipG rfl ht hv hb hd k
theorem Run.sQ1{g:Nat}{b b':Bool}{t:Nat}(h:Stp (some [b'==b]) P ⟨dst,op,ty,pos,after,some (g,b)⟩ T S xs rS v [])(ht:(ops[g]?).bind (·.dst)=some t)(hv:Ab T t=some (.prim (.bool b')))(hd:AU dst nt=true)(hos:CX xs=true)
  (k:Run P nt ops rest ⟨AW T dst (.opt (b'==b) v),S⟩ effs st'):Run P nt ops (⟨dst,op,ty,pos,after,some (g,b)⟩::rest) ⟨T,S⟩ (⟨⟨dst,op,ty,pos,after,some (g,b)⟩,t::Au xs,rS.map (·.1),(.opt (b'==b) v),[]⟩::effs) st':=Run.sQ ht hv rfl h hd hos k
theorem Run.sQ2{c1:Bool}{g:Nat}{b b':Bool}{t:Nat}(h:Stp (some [c1,b'==b]) P ⟨dst,op,ty,pos,after,some (g,b)⟩ T S xs rS v [])(ht:(ops[g]?).bind (·.dst)=some t)(hv:Ab T t=some (.opt c1 (.prim (.bool b'))))(hd:AU dst nt=true)(hos:CX xs=true)
  (k:Run P nt ops rest ⟨AW T dst (.opt c1 (.opt (b'==b) v)),S⟩ effs st'):Run P nt ops (⟨dst,op,ty,pos,after,some (g,b)⟩::rest) ⟨T,S⟩ (⟨⟨dst,op,ty,pos,after,some (g,b)⟩,t::Au xs,rS.map (·.1),(.opt c1 (.opt (b'==b) v)),[]⟩::effs) st':=Run.sQ ht hv rfl h hd hos k
theorem Run.sQ3{c1 c2:Bool}{g:Nat}{b b':Bool}{t:Nat}(h:Stp (some [c1,c2,b'==b]) P ⟨dst,op,ty,pos,after,some (g,b)⟩ T S xs rS v [])(ht:(ops[g]?).bind (·.dst)=some t)(hv:Ab T t=some (.opt c1 (.opt c2 (.prim (.bool b')))))(hd:AU dst nt=true)(hos:CX xs=true)
  (k:Run P nt ops rest ⟨AW T dst (.opt c1 (.opt c2 (.opt (b'==b) v))),S⟩ effs st'):Run P nt ops (⟨dst,op,ty,pos,after,some (g,b)⟩::rest) ⟨T,S⟩ (⟨⟨dst,op,ty,pos,after,some (g,b)⟩,t::Au xs,rS.map (·.1),(.opt c1 (.opt c2 (.opt (b'==b) v))),[]⟩::effs) st':=Run.sQ ht hv rfl h hd hos k
section
variable {P:Program}{nt:Nat}{ops:Array Oper}{Q:Exit->St->Prop}{rest:List Oper}{st st':St}{effs:List Eff}{ty t t2:TypeId}{pos:String}{after:Array Edge}{dst:Option Tmp}{g:Option (Nat×Bool)}{x y z:Operand}{f n:Nat}{ar:Array (Nat×Operand)}
theorem AOps.gQ{op:Op}{g:Nat×Bool}(k:AOps ro P nt ops Q (⟨dst,op,ty,pos,after,some g⟩::rest) st):AOps ro P nt ops Q (⟨dst,op,ty,pos,after,some g⟩::rest) st:=k
theorem AOps.g_box(k:AOps ro P nt ops Q (⟨dst,.box t x,ty,pos,after,g⟩::rest) st):AOps ro P nt ops Q (⟨dst,.box t x,ty,pos,after,g⟩::rest) st:=k
end
def RGo(P:Program)(nt:Nat)(ops:Array Oper)(l:List Oper)(Q:Exit->St->Prop)(rest:List Oper)(acc:List Eff)(st:St):Prop:=
 ∃effs st',Run P nt ops rest st effs st' /\Ca (acc++effs) (BT l [])=true/\Q .normal st'
theorem AWP.region_run{P:Program}{nt:Nat}{Q:Exit->St->Prop}{id:Nat}{l:List Oper}{st:St}(hm:P.follows .mixedOrders=true)(hdn:down l 0=true)(h:RGo P nt l.toArray l Q l [] st):AWP ro P nt (.region id l.toArray true) Q st:=by
 obtain⟨effs,st',h1,h2,h3⟩:=h;exact .region_any hm h1 (by simpa using h2) hdn h3
section
variable {P:Program}{nt:Nat}{ops:Array Oper}{Q:Exit->St->Prop}{l rest:List Oper}{acc:List Eff}{st:St}{T:List (Nat×AV)}{S:List AC}{xs:List (Operand×AV)}{rS wS:List (Nat×AC)}{v:AV}{op:Op}{ty:TypeId}{pos:String}{after:Array Edge}{dst:Option Tmp}
theorem RGo.nil(hc:Ca acc (BT l [])=true)(k:Q .normal st):RGo P nt ops l Q [] acc st:=⟨[],st,.nil,by simpa using hc,k⟩
theorem RGo.step_{o:Oper}{e:Eff}{st':St}(h:∀{effs st''},Run P nt ops rest st' effs st'' ->Run P nt ops (o::rest) st (e::effs) st'')(k:RGo P nt ops l Q rest (acc++[e]) st'):RGo P nt ops l Q (o::rest) acc st:=by
 obtain⟨effs,st'',h1,h2,h3⟩:=k;exact⟨_,_,h h1,by simpa using h2,h3⟩
theorem RGo.p(h:Stp none P ⟨dst,op,ty,pos,after,none⟩ T S xs rS v [])(hd:AU dst nt=true)(k:RGo P nt ops l Q rest (acc++[⟨⟨dst,op,ty,pos,after,none⟩,Au xs,rS.map (·.1),v,[]⟩]) ⟨AW T dst v,S⟩):RGo P nt ops l Q (⟨dst,op,ty,pos,after,none⟩::rest) acc ⟨T,S⟩:=RGo.step_ (λr=>Run.p h hd r) k
theorem RGo.s(h:Stp none P ⟨dst,op,ty,pos,after,none⟩ T S xs rS v wS)(hd:AU dst nt=true)(k:RGo P nt ops l Q rest (acc++[⟨⟨dst,op,ty,pos,after,none⟩,Au xs,rS.map (·.1),v,wS⟩]) ⟨AW T dst v,AX S wS⟩):RGo P nt ops l Q (⟨dst,op,ty,pos,after,none⟩::rest) acc ⟨T,S⟩:=RGo.step_ (λr=>Run.s h hd r) k
theorem RGo.sG{g:Nat}{b b':Bool}{t:Nat}(ht:(ops[g]?).bind (·.dst)=some t)(hv:Ab T t=some (.prim (.bool b')))(hb:b'=b)(h:Stp none P ⟨dst,op,ty,pos,after,some (g,b)⟩ T S xs rS v wS)(hd:AU dst nt=true)(k:RGo P nt ops l Q rest (acc++[⟨⟨dst,op,ty,pos,after,some (g,b)⟩,t::Au xs,rS.map (·.1),v,wS⟩]) ⟨AW T dst v,AX S wS⟩):RGo P nt ops l Q (⟨dst,op,ty,pos,after,some (g,b)⟩::rest) acc ⟨T,S⟩:=RGo.step_ (λr=>Run.sG ht hv hb h hd r) k
theorem RGo.sQ1{g:Nat}{b b':Bool}{t:Nat}(h:Stp (some [b'==b]) P ⟨dst,op,ty,pos,after,some (g,b)⟩ T S xs rS v [])(ht:(ops[g]?).bind (·.dst)=some t)(hv:Ab T t=some (.prim (.bool b')))(hd:AU dst nt=true)(hos:CX xs=true)
  (k:RGo P nt ops l Q rest (acc++[⟨⟨dst,op,ty,pos,after,some (g,b)⟩,t::Au xs,rS.map (·.1),(.opt (b'==b) v),[]⟩]) ⟨AW T dst (.opt (b'==b) v),S⟩):RGo P nt ops l Q (⟨dst,op,ty,pos,after,some (g,b)⟩::rest) acc ⟨T,S⟩:=RGo.step_ (λr=>Run.sQ1 h ht hv hd hos r) k
theorem RGo.sQ2{c1:Bool}{g:Nat}{b b':Bool}{t:Nat}(h:Stp (some [c1,b'==b]) P ⟨dst,op,ty,pos,after,some (g,b)⟩ T S xs rS v [])(ht:(ops[g]?).bind (·.dst)=some t)(hv:Ab T t=some (.opt c1 (.prim (.bool b'))))(hd:AU dst nt=true)(hos:CX xs=true)
  (k:RGo P nt ops l Q rest (acc++[⟨⟨dst,op,ty,pos,after,some (g,b)⟩,t::Au xs,rS.map (·.1),(.opt c1 (.opt (b'==b) v)),[]⟩]) ⟨AW T dst (.opt c1 (.opt (b'==b) v)),S⟩):RGo P nt ops l Q (⟨dst,op,ty,pos,after,some (g,b)⟩::rest) acc ⟨T,S⟩:=RGo.step_ (λr=>Run.sQ2 h ht hv hd hos r) k
theorem RGo.sQ3{c1 c2:Bool}{g:Nat}{b b':Bool}{t:Nat}(h:Stp (some [c1,c2,b'==b]) P ⟨dst,op,ty,pos,after,some (g,b)⟩ T S xs rS v [])(ht:(ops[g]?).bind (·.dst)=some t)(hv:Ab T t=some (.opt c1 (.opt c2 (.prim (.bool b')))))(hd:AU dst nt=true)(hos:CX xs=true)
  (k:RGo P nt ops l Q rest (acc++[⟨⟨dst,op,ty,pos,after,some (g,b)⟩,t::Au xs,rS.map (·.1),(.opt c1 (.opt c2 (.opt (b'==b) v))),[]⟩]) ⟨AW T dst (.opt c1 (.opt c2 (.opt (b'==b) v))),S⟩):RGo P nt ops l Q (⟨dst,op,ty,pos,after,some (g,b)⟩::rest) acc ⟨T,S⟩:=RGo.step_ (λr=>Run.sQ3 h ht hv hd hos r) k
theorem RGo.sN{g:Nat}{b b':Bool}{t:Nat}(ht:(ops[g]?).bind (·.dst)=some t)(hv:Ab T t=some (.prim (.bool b')))(hb:b'= !b)(hd:AU dst nt=true)(k:RGo P nt ops l Q rest (acc++[⟨⟨dst,op,ty,pos,after,some (g,b)⟩,[t],[],.dead,[]⟩]) ⟨AW T dst .dead,S⟩):RGo P nt ops l Q (⟨dst,op,ty,pos,after,some (g,b)⟩::rest) acc ⟨T,S⟩:=RGo.step_ (λr=>Run.sN ht hv hb hd r) k
variable {t t2:TypeId}{g:Option (Nat×Bool)}{x y z:Operand}{f n:Nat}{ar:Array (Nat×Operand)}
theorem RGo.gQ{op:Op}{g:Nat×Bool}(k:RGo P nt ops l Q (⟨dst,op,ty,pos,after,some g⟩::rest) acc st):RGo P nt ops l Q (⟨dst,op,ty,pos,after,some g⟩::rest) acc st:=k
end
theorem CG{c:Code}{st:St}{β:Type}(inv:β->St)(R:β->Prop)(μ:β->Nat)(b0:β)(hR:R b0)(h0:st.Le (inv b0))(round:∀b,R b->AWP ro P nt c (andThen (λst'=>∃b',R b' /\μ b'<μ b/\st'.Le (inv b')) Q) (inv b)):AWP ro P nt (.loop c) Q st:=
 .loop (β:={b:β//R b}) (λb=>inv b.1) (λb=>μ b.1) ⟨b0,hR⟩ h0 λb=>(round b.1 b.2).mono λe st' h=>by
  cases e with
  |normal=>obtain⟨b',h1,h2,h3⟩:=h;exact⟨⟨b',h1⟩,h2,h3⟩
  |_=>exact h
theorem CP{K:St->Prop}{Q:Exit->St->Prop}{st:St}(h:K st):andThen K Q .normal st:=h
theorem Su{K:St->Prop}{Q:Exit->St->Prop}{st:St}(h:Q .ret st):andThen K Q .ret st:=h
theorem Mn{K:St->Prop}{Q:Exit->St->Prop}{st:St}{i:Nat}(h:Q (.exit i) st):andThen K Q (.exit i) st:=h
theorem WE{id:Nat}{Q:Exit->St->Prop}{st:St}(h:Q .normal st):inB id Q .normal st:=h
theorem XF{id:Nat}{Q:Exit->St->Prop}{st:St}(h:Q .ret st):inB id Q .ret st:=h
theorem WG{id:Nat}{Q:Exit->St->Prop}{st:St}(h:Q .normal st):inB id Q (.exit id) st:=by
 show(match Nat.beq id id with|true=>Q .normal st|false=>Q (.exit id) st)
 rw[show Nat.beq id id=true from by simp];exact h
theorem Tz{id i:Nat}{Q:Exit->St->Prop}{st:St}(hi:Nat.beq i id=false)(h:Q (.exit i) st):inB id Q (.exit i) st:=by
 show(match Nat.beq i id with|true=>Q .normal st|false=>Q (.exit i) st)
 rw[hi];exact h
theorem WQ{res:List ResultVar}{Sf:List AC}{Q:AV->List AC->Prop}{st:St}(h:Ends P res Sf Q st):VE P res Sf Q .ret st:=h
theorem C9{res:List ResultVar}{Sf:List AC}{Q:AV->List AC->Prop}{st:St}(h:Ends P res Sf Q st):VE P res Sf Q .normal st:=h
theorem BE{t:Nat}{Sf:List AC}{Q:AV->List AC->Prop}{st:St}{a:AV}(h:Ab st.T t=some a)(ha:ntup a=true)(hS:Sf.Sublist st.S)(hQ:Q a []):Ends P [.tmp t] Sf Q st:=
 ⟨[a],[a],st.S,[],.cons (.tmp h) ha .nil,.cons (.cell .same) .nil,hS,hQ⟩
theorem BB{α β:Type}(f:α->β){l:List α}{i:Nat}(h:i<l.length):(l.map f)[i]?=some (f l[i]):=by simp[h]
theorem AOps.rs(k:∀X,AOps ro P nt ops Q rest ⟨T,(X,.gone)::S⟩):AOps ro P nt ops Q rest ⟨T,S⟩:=.reserve k
theorem AWP.rs{c:Code}(k:∀X,AWP ro P nt c Q ⟨T,(X,.gone)::S⟩):AWP ro P nt c Q ⟨T,S⟩:=.reserve k
variable {c:Option (List Bool)}{x y z:Operand}{t ty2 t' te:TypeId}{g:Option (Nat×Bool)}{i j:Int}{k:IntKind}{p q X Y sz n:Nat}{l ls:List AV}{cs:List AV}{e:AV}
theorem OpT.index_strD{P:Program}{dst:Option Tmp}{x y:Operand}{t ty:TypeId}{pos:String}{after:Array Edge}{g:Option (Nat×Bool)}{k:IntKind}{i:Int}{s:List UInt8}{a:Nat}(ht:P.underlying t=some .string)(hq:i=(a:Int))(hi:a<s.length):OpT P ⟨dst,.index t x y,ty,pos,after,g⟩ [(x,.prim (DI s)),(y,.prim (.int k i))] [] (.prim (.int .u8 ((s.getD a 0).toNat:Int))) []:=by
 rw[show s.getD a 0=s[a]from by simp[hi]];exact .index_str ht hq hi
section
variable {P:Program}{dst:Option Tmp}{x y:Operand}{t ty ty2:TypeId}{pos:String}{after:Array Edge}{g:Option (Nat×Bool)}{k k':IntKind}{i j:Int}{ats:Array TypeId}
theorem OpT.shl{n:Nat}(hj:j=(n:Int))(hn:n<=k.bits):OpT P ⟨dst,.binOp .shl t x y ty2,ty,pos,after,g⟩ [(x,.prim (.int k i)),(y,.prim (.int k' j))] [] (.prim (.int k (k.wrap (i*2^n)))) []:=
 Bz rfl (λw=>by
  subst hj;have h:¬((n:Int)<0):=by omega
  simp[binOp,Op.shift,h,Sem.run_pure,Nat.min_eq_left hn]) (.inl ⟨by simp,by simp⟩)
theorem OpT.min2:OpT P ⟨dst,.call ⟨.builtin .min,#[x,y],ats⟩,ty,pos,after,g⟩ [(x,.prim (.int k i)),(y,.prim (.int k j))] [] (.prim (.int k (if j<i then j else i))) []:=
 .pure_ λm a hx _=>by
  have h1:=(hx (x,.prim (.int k i)) (by simp)).prim;have h2:=(hx (y,.prim (.int k j)) (by simp)).prim;simp only at h1 h2;refine⟨_,?_,BM _⟩;rw[BQ];simp[builtin,Builtin.min_,Builtin.min2,h1,h2,Sem.run_bind,Sem.run_pure,Result.andThen_ok]
theorem OpT.max2:OpT P ⟨dst,.call ⟨.builtin .max,#[x,y],ats⟩,ty,pos,after,g⟩ [(x,.prim (.int k i)),(y,.prim (.int k j))] [] (.prim (.int k (if i<j then j else i))) []:=
 .pure_ λm a hx _=>by
  have h1:=(hx (x,.prim (.int k i)) (by simp)).prim;have h2:=(hx (y,.prim (.int k j)) (by simp)).prim;simp only at h1 h2;refine⟨_,?_,BM _⟩;rw[BQ];simp[builtin,Builtin.max_,Builtin.max2,h1,h2,Sem.run_bind,Sem.run_pure,Result.andThen_ok]
end
namespace W
theorem move(hx:Rd c T x (v)):Stp c P ⟨dst,.move x,ty,pos,after,g⟩ T S [(x,v)] [] (v) []:=⟨.move,(.cons hx .nil),.nil⟩
theorem assign(hx:Rd c T x (v)):Stp c P ⟨dst,.assign x,ty,pos,after,g⟩ T S [(x,v)] [] (v) []:=⟨.assign,(.cons hx .nil),.nil⟩
theorem lss(hx:Rd c T x (.prim (.int k i)))(hy:Rd c T y (.prim (.int k j))):Stp c P ⟨dst,.binOp .lss t x y ty2,ty,pos,after,g⟩ T S [(x,.prim (.int k i)),(y,.prim (.int k j))] [] (.prim (.bool (decide (i<j)))) []:=⟨.lss,(.cons hx (.cons hy .nil)),.nil⟩
theorem leq(hx:Rd c T x (.prim (.int k i)))(hy:Rd c T y (.prim (.int k j))):Stp c P ⟨dst,.binOp .leq t x y ty2,ty,pos,after,g⟩ T S [(x,.prim (.int k i)),(y,.prim (.int k j))] [] (.prim (.bool (decide (i<=j)))) []:=⟨.leq,(.cons hx (.cons hy .nil)),.nil⟩
theorem gtr(hx:Rd c T x (.prim (.int k i)))(hy:Rd c T y (.prim (.int k j))):Stp c P ⟨dst,.binOp .gtr t x y ty2,ty,pos,after,g⟩ T S [(x,.prim (.int k i)),(y,.prim (.int k j))] [] (.prim (.bool (decide (j<i)))) []:=⟨.gtr,(.cons hx (.cons hy .nil)),.nil⟩
theorem geq(hx:Rd c T x (.prim (.int k i)))(hy:Rd c T y (.prim (.int k j))):Stp c P ⟨dst,.binOp .geq t x y ty2,ty,pos,after,g⟩ T S [(x,.prim (.int k i)),(y,.prim (.int k j))] [] (.prim (.bool (decide (j<=i)))) []:=⟨.geq,(.cons hx (.cons hy .nil)),.nil⟩
theorem eqI(hx:Rd c T x (.prim (.int k i)))(hy:Rd c T y (.prim (.int k j))):Stp c P ⟨dst,.binOp .eql t x y ty2,ty,pos,after,g⟩ T S [(x,.prim (.int k i)),(y,.prim (.int k j))] [] (.prim (.bool (decide (i=j)))) []:=⟨.eql_int,(.cons hx (.cons hy .nil)),.nil⟩
theorem neI(hx:Rd c T x (.prim (.int k i)))(hy:Rd c T y (.prim (.int k j))):Stp c P ⟨dst,.binOp .neq t x y ty2,ty,pos,after,g⟩ T S [(x,.prim (.int k i)),(y,.prim (.int k j))] [] (.prim (.bool (decide (i≠j)))) []:=⟨.neq_int,(.cons hx (.cons hy .nil)),.nil⟩
theorem eqS{a b:List UInt8}(hx:Rd c T x (.prim (DI a)))(hy:Rd c T y (.prim (DI b))):Stp c P ⟨dst,.binOp .eql t x y ty2,ty,pos,after,g⟩ T S [(x,.prim (DI a)),(y,.prim (DI b))] [] (.prim (.bool (decide (a=b)))) []:=⟨.eql_str,(.cons hx (.cons hy .nil)),.nil⟩
theorem neS{a b:List UInt8}(hx:Rd c T x (.prim (DI a)))(hy:Rd c T y (.prim (DI b))):Stp c P ⟨dst,.binOp .neq t x y ty2,ty,pos,after,g⟩ T S [(x,.prim (DI a)),(y,.prim (DI b))] [] (.prim (.bool (decide (a≠b)))) []:=⟨.neq_str,(.cons hx (.cons hy .nil)),.nil⟩
theorem add(hx:Rd c T x (.prim (.int .i64 i)))(hy:Rd c T y (.prim (.int .i64 j)))(h: -9223372036854775808<=i+j/\i+j<=9223372036854775807):Stp c P ⟨dst,.binOp .add t x y ty2,ty,pos,after,g⟩ T S [(x,.prim (.int .i64 i)),(y,.prim (.int .i64 j))] [] (.prim (.int .i64 (i+j))) []:=⟨.add h.1 h.2,(.cons hx (.cons hy .nil)),.nil⟩
theorem sub(hx:Rd c T x (.prim (.int .i64 i)))(hy:Rd c T y (.prim (.int .i64 j)))(h: -9223372036854775808<=i-j/\i-j<=9223372036854775807):Stp c P ⟨dst,.binOp .sub t x y ty2,ty,pos,after,g⟩ T S [(x,.prim (.int .i64 i)),(y,.prim (.int .i64 j))] [] (.prim (.int .i64 (i-j))) []:=⟨.sub h.1 h.2,(.cons hx (.cons hy .nil)),.nil⟩
theorem mul(hx:Rd c T x (.prim (.int .i64 i)))(hy:Rd c T y (.prim (.int .i64 j)))(h: -9223372036854775808<=i*j/\i*j<=9223372036854775807):Stp c P ⟨dst,.binOp .mul t x y ty2,ty,pos,after,g⟩ T S [(x,.prim (.int .i64 i)),(y,.prim (.int .i64 j))] [] (.prim (.int .i64 (i*j))) []:=⟨.mul h.1 h.2,(.cons hx (.cons hy .nil)),.nil⟩
theorem rem(hx:Rd c T x (.prim (.int k i)))(hy:Rd c T y (.prim (.int k j)))(h:j≠0):Stp c P ⟨dst,.binOp .rem t x y ty2,ty,pos,after,g⟩ T S [(x,.prim (.int k i)),(y,.prim (.int k j))] [] (.prim (.int k (i.tmod j))) []:=⟨.rem h,(.cons hx (.cons hy .nil)),.nil⟩
theorem quoW(hx:Rd c T x (.prim (.int k i)))(hy:Rd c T y (.prim (.int k j)))(h:j≠0):Stp c P ⟨dst,.binOp .quo t x y ty2,ty,pos,after,g⟩ T S [(x,.prim (.int k i)),(y,.prim (.int k j))] [] (.prim (.int k (k.wrap (i.tdiv j)))) []:=⟨.quo h,(.cons hx (.cons hy .nil)),.nil⟩
theorem shl{m:Nat}{k':IntKind}(hx:Rd c T x (.prim (.int k i)))(hy:Rd c T y (.prim (.int k' j)))(hj:j=(m:Int))(hm:m<=k.bits):Stp c P ⟨dst,.binOp .shl t x y ty2,ty,pos,after,g⟩ T S [(x,.prim (.int k i)),(y,.prim (.int k' j))] [] (.prim (.int k (k.wrap (i*2^m)))) []:=⟨.shl hj hm,(.cons hx (.cons hy .nil)),.nil⟩
theorem min2{ats:Array TypeId}(hx:Rd c T x (.prim (.int k i)))(hy:Rd c T y (.prim (.int k j))):Stp c P ⟨dst,.call ⟨.builtin .min,#[x,y],ats⟩,ty,pos,after,g⟩ T S [(x,.prim (.int k i)),(y,.prim (.int k j))] [] (.prim (.int k (if j<i then j else i))) []:=⟨.min2,(.cons hx (.cons hy .nil)),.nil⟩
theorem max2{ats:Array TypeId}(hx:Rd c T x (.prim (.int k i)))(hy:Rd c T y (.prim (.int k j))):Stp c P ⟨dst,.call ⟨.builtin .max,#[x,y],ats⟩,ty,pos,after,g⟩ T S [(x,.prim (.int k i)),(y,.prim (.int k j))] [] (.prim (.int k (if i<j then j else i))) []:=⟨.max2,(.cons hx (.cons hy .nil)),.nil⟩
theorem not{b:Bool}(hx:Rd c T x (.prim (.bool b))):Stp c P ⟨dst,.unOp .not t x,ty,pos,after,g⟩ T S [(x,.prim (.bool b))] [] (.prim (.bool !b)) []:=⟨.not,(.cons hx .nil),.nil⟩
theorem negW(hx:Rd c T x (.prim (.int k i))):Stp c P ⟨dst,.unOp .neg t x,ty,pos,after,g⟩ T S [(x,.prim (.int k i))] [] (.prim (.int k (k.wrap (-i)))) []:=⟨.neg,(.cons hx .nil),.nil⟩
theorem pick{b:Bool}{va vb:AV}(hx:Rd c T x (.prim (.bool b)))(hy:Rd c T y (va))(hz:Rd c T z (vb)):Stp c P ⟨dst,.pick x y z,ty,pos,after,g⟩ T S [(x,.prim (.bool b)),(y,va),(z,vb)] [] (XQ b va vb) []:=⟨.pick,(.cons hx (.cons hy (.cons hz .nil))),.nil⟩
theorem pickP{b:Bool}{u1 u2:Value}(hx:Rd c T x (.prim (.bool b)))(hy:Rd c T y (.prim u1))(hz:Rd c T z (.prim u2)):Stp c P ⟨dst,.pick x y z,ty,pos,after,g⟩ T S [(x,.prim (.bool b)),(y,.prim u1),(z,.prim u2)] [] (.prim (if b then u1 else u2)) []:=⟨.pick_prim,(.cons hx (.cons hy (.cons hz .nil))),.nil⟩
theorem orQ{b d:Bool}(hx:Rd c T x (.prim (.bool b)))(hy:Rd c T y (.prim (.bool true)))(hz:Rd c T z (.opt (b==false) (.prim (.bool d)))):Stp c P ⟨dst,.pick x y z,ty,pos,after,g⟩ T S [(x,.prim (.bool b)),(y,.prim (.bool true)),(z,.opt (b==false) (.prim (.bool d)))] [] (.prim (.bool (b||d))) []:=⟨.or_opt,(.cons hx (.cons hy (.cons hz .nil))),.nil⟩
theorem andQ{b d:Bool}(hx:Rd c T x (.prim (.bool b)))(hy:Rd c T y (.opt (b==true) (.prim (.bool d))))(hz:Rd c T z (.prim (.bool false))):Stp c P ⟨dst,.pick x y z,ty,pos,after,g⟩ T S [(x,.prim (.bool b)),(y,.opt (b==true) (.prim (.bool d))),(z,.prim (.bool false))] [] (.prim (.bool (b&&d))) []:=⟨.and_opt,(.cons hx (.cons hy (.cons hz .nil))),.nil⟩
theorem extract{as:List AV}{m:Nat}(hx:Rd c T x (.tup as))(h:as[m]?=some v):Stp c P ⟨dst,.extract x m,ty,pos,after,g⟩ T S [(x,.tup as)] [] (v) []:=⟨.extract h,(.cons hx .nil),.nil⟩
theorem loadF{ag:Bool}[TAg P t ag][TSize P t n](hx:Rd c T x (.fp cs))(h:E1 cs 0 n ag=some v):Stp c P ⟨dst,.load t x,ty,pos,after,g⟩ T S [(x,.fp cs)] [] (v) []:=⟨.load_fp TAg.h TSize.h h,(.cons hx .nil),.nil⟩
theorem load{ag:Bool}{a b:Nat}[TAg P t ag][TSize P t n](hx:Rd c T x (.ptr X a b))(hSp:At S p (X,.row t' sz l))(hi:l[a]?=some e)(h:E1 e.cells b n ag=some v):Stp c P ⟨dst,.load t x,ty,pos,after,g⟩ T S [(x,.ptr X a b)] [(p,(X,.row t' sz l))] (v) []:=⟨.load TAg.h TSize.h hi h,(.cons hx .nil),(.cons hSp .nil)⟩
theorem store{a b:Nat}[TSize P t n](hx:Rd c T x (.ptr X a b))(hy:Rd c T y (v))(hSp:At S p (X,.row t' sz l))(hi:l[a]?=some e)(h:Hy e b n v=true):Stp c P ⟨dst,.store t x y,ty,pos,after,g⟩ T S [(x,.ptr X a b),(y,v)] [(p,(X,.row t' sz l))] (.dead) [(p,(X,.row t' sz (l.set a (C5 e b v))))]:=⟨.store TSize.h hi h,(.cons hx (.cons hy .nil)),(.cons hSp .nil)⟩
theorem fieldF{f off:Nat}{ft:TypeId}[TFl P t f off ft][TSize P ft (n+1)](hx:Rd c T x (.fp cs))(h:Ls cs=true):Stp c P ⟨dst,.fieldAddr t x f,ty,pos,after,g⟩ T S [(x,.fp cs)] [] (.fp (cs.drop off)) []:=⟨.fieldAddr_fp TFl.h TSize.h h,(.cons hx .nil),.nil⟩
theorem fieldA{f off a b:Nat}{ft:TypeId}[TFl P t f off ft][TSize P ft (n+1)](hx:Rd c T x (.ptr X a b))(hSp:At S p (X,.row t' sz l))(hi:a<l.length):Stp c P ⟨dst,.fieldAddr t x f,ty,pos,after,g⟩ T S [(x,.ptr X a b)] [(p,(X,.row t' sz l))] (.ptr X a (b+off)) []:=⟨.fieldAddr TFl.h TSize.h hi,(.cons hx .nil),(.cons hSp .nil)⟩
theorem field{f off:Nat}{ft:TypeId}{ag:Bool}[TFl P t f off ft][TAg P ft ag][TSize P ft n](hx:Rd c T x (.agg cs))(h:E1 cs off n ag=some v):Stp c P ⟨dst,.field t x f,ty,pos,after,g⟩ T S [(x,.agg cs)] [] (v) []:=⟨.field TFl.h TAg.h TSize.h h,(.cons hx .nil),.nil⟩
theorem idx{off m a b:Nat}[TEl P t te][TSize P te sz](hx:Rd c T x (.sl X off m))(hy:Rd c T y (.prim (.int k i)))(hSp:At S p (X,.row t' sz l))(hq:i=(a:Int))(ha:a<m)(hb:off+a=b):Stp c P ⟨dst,.indexAddr t x y,ty,pos,after,g⟩ T S [(x,.sl X off m),(y,.prim (.int k i))] [(p,(X,.row t' sz l))] (.ptr X b 0) []:=⟨.indexAddr TEl.h TSize.h hq ha hb,(.cons hx (.cons hy .nil)),(.cons hSp .nil)⟩
theorem idxL{a:Nat}[TEl P t te][TSize P te sz](hx:Rd c T x (.lst false t' sz l))(hy:Rd c T y (.prim (.int k i)))(hq:i=(a:Int))(hi:l[a]?=some e):Stp c P ⟨dst,.indexAddr t x y,ty,pos,after,g⟩ T S [(x,.lst false t' sz l),(y,.prim (.int k i))] [] (.fp e.cells) []:=⟨.indexAddr_lst TEl.h TSize.h hq hi,(.cons hx (.cons hy .nil)),.nil⟩
theorem lenS{off m:Nat}[TEl P t te](hx:Rd c T x (.sl X off m)):Stp c P ⟨dst,.call ⟨.builtin .len,#[x],#[t]⟩,ty,pos,after,g⟩ T S [(x,.sl X off m)] [] (.prim (.int .i64 (m:Int))) []:=⟨.len_sl TEl.h,(.cons hx .nil),.nil⟩
theorem lenL[TEl P t te](hx:Rd c T x (.lst false t' sz l)):Stp c P ⟨dst,.call ⟨.builtin .len,#[x],#[t]⟩,ty,pos,after,g⟩ T S [(x,.lst false t' sz l)] [] (.prim (.int .i64 (l.length:Int))) []:=⟨.len_lst (o:=false) TEl.h,(.cons hx .nil),.nil⟩
theorem lenN[TEl P t te](hx:Rd c T x (.prim (.slice none 0 0))):Stp c P ⟨dst,.call ⟨.builtin .len,#[x],#[t]⟩,ty,pos,after,g⟩ T S [(x,.prim (.slice none 0 0))] [] (.prim (.int .i64 0)) []:=⟨.len_nil TEl.h,(.cons hx .nil),.nil⟩
theorem lenStr{s:List UInt8}[TSg P t](hx:Rd c T x (.prim (DI s))):Stp c P ⟨dst,.call ⟨.builtin .len,#[x],#[t]⟩,ty,pos,after,g⟩ T S [(x,.prim (DI s))] [] (.prim (.int .i64 (s.length:Int))) []:=⟨.len_str TSg.h,(.cons hx .nil),.nil⟩
theorem idxStr{s:List UInt8}{a:Nat}[TSg P t](hx:Rd c T x (.prim (DI s)))(hy:Rd c T y (.prim (.int k i)))(hq:i=(a:Int))(hi:a<s.length):Stp c P ⟨dst,.index t x y,ty,pos,after,g⟩ T S [(x,.prim (DI s)),(y,.prim (.int k i))] [] (.prim (.int .u8 ((s.getD a 0).toNat:Int))) []:=⟨.index_strD TSg.h hq hi,(.cons hx (.cons hy .nil)),.nil⟩
theorem nilF(hx:Rd c T x (.fp cs)):Stp c P ⟨dst,.nilCheck x,ty,pos,after,g⟩ T S [(x,.fp cs)] [] (.fp cs) []:=⟨.nilCheck_fp,(.cons hx .nil),.nil⟩
theorem nilA{a b:Nat}(hx:Rd c T x (.ptr X a b))(hSp:At S p (X,.row t' sz l))(hi:a<l.length):Stp c P ⟨dst,.nilCheck x,ty,pos,after,g⟩ T S [(x,.ptr X a b)] [(p,(X,.row t' sz l))] (.ptr X a b) []:=⟨.nilCheck hi,(.cons hx .nil),(.cons hSp .nil)⟩
theorem hi{off m a:Nat}[TEl P t te][TSize P te sz](hx:Rd c T x (.sl X off m))(hy:Rd c T y (.prim (.int k i)))(hSp:At S p (X,.row t' sz l))(hq:i=(a:Int))(ha:a<=m):Stp c P ⟨dst,.slice t x none (some y) none,ty,pos,after,g⟩ T S [(x,.sl X off m),(y,.prim (.int k i))] [(p,(X,.row t' sz l))] (.sl X off a) []:=⟨.slice_hi TEl.h TSize.h hq ha,(.cons hx (.cons hy .nil)),(.cons hSp .nil)⟩
theorem hiL{a:Nat}[TEl P t te][TSize P te sz](hx:Rd c T x (.lst false t' sz l))(hy:Rd c T y (.prim (.int k i)))(hq:i=(a:Int))(ha:a<=l.length):Stp c P ⟨dst,.slice t x none (some y) none,ty,pos,after,g⟩ T S [(x,.lst false t' sz l),(y,.prim (.int k i))] [] (.lst false t' sz (l.take a)) []:=⟨.slice_lst_hi TEl.h TSize.h hq ha,(.cons hx (.cons hy .nil)),.nil⟩
theorem loL{a:Nat}[TEl P t te][TSize P te sz](hx:Rd c T x (.lst false t' sz l))(hy:Rd c T y (.prim (.int k i)))(hq:i=(a:Int))(ha:a<=l.length):Stp c P ⟨dst,.slice t x (some y) none none,ty,pos,after,g⟩ T S [(x,.lst false t' sz l),(y,.prim (.int k i))] [] (.lst false t' sz (l.drop a)) []:=⟨.slice_lst_lo TEl.h TSize.h hq ha,(.cons hx (.cons hy .nil)),.nil⟩
theorem box(hx:Rd c T x (v))(hSp:At S p (X,.gone))(hs:v.stor=true):Stp c P ⟨dst,.box t x,ty,pos,after,g⟩ T S [(x,v)] [(p,(X,.gone))] (.ptr X 0 0) [(p,(X,.row t v.width [v]))]:=⟨.box hs,(.cons hx .nil),(.cons hSp .nil)⟩
theorem alloc{zl:List Value}{ag:Bool}[TZe P t zl][TAg P t ag](hSp:At S p (X,.gone))(h:ag=true\/zl.length=1):Stp c P ⟨dst,.alloc t,ty,pos,after,g⟩ T S [] [(p,(X,.gone))] (.ptr X 0 0) [(p,(X,.row t zl.length [zAV zl ag]))]:=⟨.alloc TZe.h h,.nil,(.cons hSp .nil)⟩
theorem app{m by_:Nat}[TRo P t te sz by_](hx:Rd c T x (.sl X 0 m))(hy:Rd c T y (.lst false t' sz ls))(hSq:At S q (Y,.gone))(hSp:At S p (X,.row te sz l))(hn:m=l.length)(hb:(l.length+ls.length)*by_<=140737488355328)(hm:l.length+ls.length<=maxLen)(hqp:q≠p):Stp c P ⟨dst,.call ⟨.builtin .append,#[x,y],#[t,t]⟩,ty,pos,after,g⟩ T S [(x,.sl X 0 m),(y,.lst false t' sz ls)] [(q,(Y,.gone)),(p,(X,.row te sz l))] (.sl Y 0 (m+ls.length)) [(q,(X,.used)),(p,(Y,.row te sz (l++ls)))]:=⟨.append_lst TRo.h hn hb hm hqp,(.cons hx (.cons hy .nil)),(.cons hSq (.cons hSp .nil))⟩
theorem make{k':IntKind}{zl:List Value}{ag:Bool}{m d by_:Nat}[TEl P t te][TZe P te zl][TSize P te sz][TAg P te ag][TBy P te by_](hx:Rd c T x (.prim (.int k i)))(hy:Rd c T y (.prim (.int k' j)))(hSp:At S p (X,.gone))(hzs:zl.length=sz)(hag:ag=true\/zl.length=1)(hq:i=(m:Int))(hq':j=(d:Int))(hnc:m<=d)(hb:by_*d<=281474976710656)(hc:d<=maxLen):Stp c P ⟨dst,.makeSlice t x y,ty,pos,after,g⟩ T S [(x,.prim (.int k i)),(y,.prim (.int k' j))] [(p,(X,.gone))] (.sl X 0 m) [(p,(X,.row te sz (List.replicate m (zAV zl ag))))]:=⟨.makeSlice TEl.h TZe.h TSize.h hzs hag TBy.h hq hq' hnc hb hc,(.cons hx (.cons hy .nil)),(.cons hSp .nil)⟩
theorem XP{f:FuncId}{ats:Array TypeId}{r:AV}(h:PS P f [] r)(ht:Am []=true):Stp c P ⟨dst,.call ⟨.value (.func f),#[],ats⟩,ty,pos,after,g⟩ T S [] [] r.frz []:=⟨.call (xs:=[]) h ht,.nil,.nil⟩
theorem callF0{f:FuncId}{ats:Array TypeId}{r r':AV}(h:PS P f [] r)(ht:Am []=true)(hf:r.frz=r'):Stp c P ⟨dst,.call ⟨.value (.func f),#[],ats⟩,ty,pos,after,g⟩ T S [] [] r' []:=hf▸XP h ht
theorem build0{zl:List Value}{pl:List (Nat×Nat)}[TSt P t zl pl](hf:FI pl (zl.map .prim) []=some cs):Stp c P ⟨dst,.build t #[],ty,pos,after,g⟩ T S [] [] (.agg cs) []:=⟨.build (ps:=[]) TSt.h hf,.nil,.nil⟩
theorem call1{x0:Operand}{v0:AV}{f:FuncId}{ats:Array TypeId}{r:AV}(h0:Rd c T x0 v0)(h:PS P f [v0] r)(ht:Am [(x0,v0)]=true):Stp c P ⟨dst,.call ⟨.value (.func f),#[x0],ats⟩,ty,pos,after,g⟩ T S [(x0,v0)] [] r.frz []:=⟨.call (xs:=[(x0,v0)]) h ht,(.cons h0 .nil),.nil⟩
theorem callF1{x0:Operand}{v0:AV}{f:FuncId}{ats:Array TypeId}{r r':AV}(h0:Rd c T x0 v0)(h:PS P f [v0] r)(ht:Am [(x0,v0)]=true)(hf:r.frz=r'):Stp c P ⟨dst,.call ⟨.value (.func f),#[x0],ats⟩,ty,pos,after,g⟩ T S [(x0,v0)] [] r' []:=hf▸call1 h0 h ht
theorem build1{x0:Operand}{v0:AV}{j0:Nat}{zl:List Value}{pl:List (Nat×Nat)}[TSt P t zl pl](h0:Rd c T x0 v0)(hf:FI pl (zl.map .prim) [(j0,v0)]=some cs):Stp c P ⟨dst,.build t #[(j0,x0)],ty,pos,after,g⟩ T S [(x0,v0)] [] (.agg cs) []:=⟨.build (ps:=[(j0,x0,v0)]) TSt.h hf,(.cons h0 .nil),.nil⟩
theorem lit1{x0:Operand}{v0:AV}{j0:Nat}{zl:List Value}{ag:Bool}{m:Nat}[TEl P t te][TZe P te zl][TSize P te sz][TAg P te ag](h0:Rd c T x0 v0)(hS:At S p (X,.gone))(hzs:zl.length=sz)(hag:ag=true\/zl.length=1)(hn:m*sz<=16777216)(hpos:0<m*sz)(hf:Dr sz (List.replicate m (zAV zl ag)) [(j0,v0)]=some l):Stp c P ⟨dst,.buildSlice t m #[(j0,x0)],ty,pos,after,g⟩ T S [(x0,v0)] [(p,(X,.gone))] (.sl X 0 m) [(p,(X,.row te sz l))]:=⟨.buildSlice (ps:=[(j0,x0,v0)]) TEl.h TZe.h TSize.h hzs hag hn hpos hf,(.cons h0 .nil),.cons hS .nil⟩
theorem func1{x0:Operand}{v0:AV}{f:FuncId}(h0:Rd c T x0 v0)(hs:B4 [v0]=true):Stp c P ⟨dst,.makeFunc (.func f) #[] #[x0],ty,pos,after,g⟩ T S [(x0,v0)] [] (.fn f [v0]) []:=⟨.makeFunc (xs:=[(x0,v0)]) hs,(.cons h0 .nil),.nil⟩
theorem call2{x0 x1:Operand}{v0 v1:AV}{f:FuncId}{ats:Array TypeId}{r:AV}(h0:Rd c T x0 v0)(h1:Rd c T x1 v1)(h:PS P f [v0,v1] r)(ht:Am [(x0,v0),(x1,v1)]=true):Stp c P ⟨dst,.call ⟨.value (.func f),#[x0,x1],ats⟩,ty,pos,after,g⟩ T S [(x0,v0),(x1,v1)] [] r.frz []:=⟨.call (xs:=[(x0,v0),(x1,v1)]) h ht,(.cons h0 (.cons h1 .nil)),.nil⟩
theorem callF2{x0 x1:Operand}{v0 v1:AV}{f:FuncId}{ats:Array TypeId}{r r':AV}(h0:Rd c T x0 v0)(h1:Rd c T x1 v1)(h:PS P f [v0,v1] r)(ht:Am [(x0,v0),(x1,v1)]=true)(hf:r.frz=r'):Stp c P ⟨dst,.call ⟨.value (.func f),#[x0,x1],ats⟩,ty,pos,after,g⟩ T S [(x0,v0),(x1,v1)] [] r' []:=hf▸call2 h0 h1 h ht
theorem build2{x0 x1:Operand}{v0 v1:AV}{j0 j1:Nat}{zl:List Value}{pl:List (Nat×Nat)}[TSt P t zl pl](h0:Rd c T x0 v0)(h1:Rd c T x1 v1)(hf:FI pl (zl.map .prim) [(j0,v0),(j1,v1)]=some cs):Stp c P ⟨dst,.build t #[(j0,x0),(j1,x1)],ty,pos,after,g⟩ T S [(x0,v0),(x1,v1)] [] (.agg cs) []:=⟨.build (ps:=[(j0,x0,v0),(j1,x1,v1)]) TSt.h hf,(.cons h0 (.cons h1 .nil)),.nil⟩
theorem func2{x0 x1:Operand}{v0 v1:AV}{f:FuncId}(h0:Rd c T x0 v0)(h1:Rd c T x1 v1)(hs:B4 [v0,v1]=true):Stp c P ⟨dst,.makeFunc (.func f) #[] #[x0,x1],ty,pos,after,g⟩ T S [(x0,v0),(x1,v1)] [] (.fn f [v0,v1]) []:=⟨.makeFunc (xs:=[(x0,v0),(x1,v1)]) hs,(.cons h0 (.cons h1 .nil)),.nil⟩
theorem XO{x0 x1 x2:Operand}{v0 v1 v2:AV}{f:FuncId}{ats:Array TypeId}{r:AV}(h0:Rd c T x0 v0)(h1:Rd c T x1 v1)(h2:Rd c T x2 v2)(h:PS P f [v0,v1,v2] r)(ht:Am [(x0,v0),(x1,v1),(x2,v2)]=true):Stp c P ⟨dst,.call ⟨.value (.func f),#[x0,x1,x2],ats⟩,ty,pos,after,g⟩ T S [(x0,v0),(x1,v1),(x2,v2)] [] r.frz []:=⟨.call (xs:=[(x0,v0),(x1,v1),(x2,v2)]) h ht,(.cons h0 (.cons h1 (.cons h2 .nil))),.nil⟩
theorem callF3{x0 x1 x2:Operand}{v0 v1 v2:AV}{f:FuncId}{ats:Array TypeId}{r r':AV}(h0:Rd c T x0 v0)(h1:Rd c T x1 v1)(h2:Rd c T x2 v2)(h:PS P f [v0,v1,v2] r)(ht:Am [(x0,v0),(x1,v1),(x2,v2)]=true)(hf:r.frz=r'):Stp c P ⟨dst,.call ⟨.value (.func f),#[x0,x1,x2],ats⟩,ty,pos,after,g⟩ T S [(x0,v0),(x1,v1),(x2,v2)] [] r' []:=hf▸XO h0 h1 h2 h ht
theorem build3{x0 x1 x2:Operand}{v0 v1 v2:AV}{j0 j1 j2:Nat}{zl:List Value}{pl:List (Nat×Nat)}[TSt P t zl pl](h0:Rd c T x0 v0)(h1:Rd c T x1 v1)(h2:Rd c T x2 v2)(hf:FI pl (zl.map .prim) [(j0,v0),(j1,v1),(j2,v2)]=some cs):Stp c P ⟨dst,.build t #[(j0,x0),(j1,x1),(j2,x2)],ty,pos,after,g⟩ T S [(x0,v0),(x1,v1),(x2,v2)] [] (.agg cs) []:=⟨.build (ps:=[(j0,x0,v0),(j1,x1,v1),(j2,x2,v2)]) TSt.h hf,(.cons h0 (.cons h1 (.cons h2 .nil))),.nil⟩
theorem func3{x0 x1 x2:Operand}{v0 v1 v2:AV}{f:FuncId}(h0:Rd c T x0 v0)(h1:Rd c T x1 v1)(h2:Rd c T x2 v2)(hs:B4 [v0,v1,v2]=true):Stp c P ⟨dst,.makeFunc (.func f) #[] #[x0,x1,x2],ty,pos,after,g⟩ T S [(x0,v0),(x1,v1),(x2,v2)] [] (.fn f [v0,v1,v2]) []:=⟨.makeFunc (xs:=[(x0,v0),(x1,v1),(x2,v2)]) hs,(.cons h0 (.cons h1 (.cons h2 .nil))),.nil⟩
theorem XN{x0 x1 x2 x3:Operand}{v0 v1 v2 v3:AV}{f:FuncId}{ats:Array TypeId}{r:AV}(h0:Rd c T x0 v0)(h1:Rd c T x1 v1)(h2:Rd c T x2 v2)(h3:Rd c T x3 v3)(h:PS P f [v0,v1,v2,v3] r)(ht:Am [(x0,v0),(x1,v1),(x2,v2),(x3,v3)]=true):Stp c P ⟨dst,.call ⟨.value (.func f),#[x0,x1,x2,x3],ats⟩,ty,pos,after,g⟩ T S [(x0,v0),(x1,v1),(x2,v2),(x3,v3)] [] r.frz []:=⟨.call (xs:=[(x0,v0),(x1,v1),(x2,v2),(x3,v3)]) h ht,(.cons h0 (.cons h1 (.cons h2 (.cons h3 .nil)))),.nil⟩
theorem callF4{x0 x1 x2 x3:Operand}{v0 v1 v2 v3:AV}{f:FuncId}{ats:Array TypeId}{r r':AV}(h0:Rd c T x0 v0)(h1:Rd c T x1 v1)(h2:Rd c T x2 v2)(h3:Rd c T x3 v3)(h:PS P f [v0,v1,v2,v3] r)(ht:Am [(x0,v0),(x1,v1),(x2,v2),(x3,v3)]=true)(hf:r.frz=r'):Stp c P ⟨dst,.call ⟨.value (.func f),#[x0,x1,x2,x3],ats⟩,ty,pos,after,g⟩ T S [(x0,v0),(x1,v1),(x2,v2),(x3,v3)] [] r' []:=hf▸XN h0 h1 h2 h3 h ht
theorem build4{x0 x1 x2 x3:Operand}{v0 v1 v2 v3:AV}{j0 j1 j2 j3:Nat}{zl:List Value}{pl:List (Nat×Nat)}[TSt P t zl pl](h0:Rd c T x0 v0)(h1:Rd c T x1 v1)(h2:Rd c T x2 v2)(h3:Rd c T x3 v3)(hf:FI pl (zl.map .prim) [(j0,v0),(j1,v1),(j2,v2),(j3,v3)]=some cs):Stp c P ⟨dst,.build t #[(j0,x0),(j1,x1),(j2,x2),(j3,x3)],ty,pos,after,g⟩ T S [(x0,v0),(x1,v1),(x2,v2),(x3,v3)] [] (.agg cs) []:=⟨.build (ps:=[(j0,x0,v0),(j1,x1,v1),(j2,x2,v2),(j3,x3,v3)]) TSt.h hf,(.cons h0 (.cons h1 (.cons h2 (.cons h3 .nil)))),.nil⟩
theorem func4{x0 x1 x2 x3:Operand}{v0 v1 v2 v3:AV}{f:FuncId}(h0:Rd c T x0 v0)(h1:Rd c T x1 v1)(h2:Rd c T x2 v2)(h3:Rd c T x3 v3)(hs:B4 [v0,v1,v2,v3]=true):Stp c P ⟨dst,.makeFunc (.func f) #[] #[x0,x1,x2,x3],ty,pos,after,g⟩ T S [(x0,v0),(x1,v1),(x2,v2),(x3,v3)] [] (.fn f [v0,v1,v2,v3]) []:=⟨.makeFunc (xs:=[(x0,v0),(x1,v1),(x2,v2),(x3,v3)]) hs,(.cons h0 (.cons h1 (.cons h2 (.cons h3 .nil)))),.nil⟩
theorem XM{x0 x1 x2 x3 x4:Operand}{v0 v1 v2 v3 v4:AV}{f:FuncId}{ats:Array TypeId}{r:AV}(h0:Rd c T x0 v0)(h1:Rd c T x1 v1)(h2:Rd c T x2 v2)(h3:Rd c T x3 v3)(h4:Rd c T x4 v4)(h:PS P f [v0,v1,v2,v3,v4] r)(ht:Am [(x0,v0),(x1,v1),(x2,v2),(x3,v3),(x4,v4)]=true):Stp c P ⟨dst,.call ⟨.value (.func f),#[x0,x1,x2,x3,x4],ats⟩,ty,pos,after,g⟩ T S [(x0,v0),(x1,v1),(x2,v2),(x3,v3),(x4,v4)] [] r.frz []:=⟨.call (xs:=[(x0,v0),(x1,v1),(x2,v2),(x3,v3),(x4,v4)]) h ht,(.cons h0 (.cons h1 (.cons h2 (.cons h3 (.cons h4 .nil))))),.nil⟩
theorem callF5{x0 x1 x2 x3 x4:Operand}{v0 v1 v2 v3 v4:AV}{f:FuncId}{ats:Array TypeId}{r r':AV}(h0:Rd c T x0 v0)(h1:Rd c T x1 v1)(h2:Rd c T x2 v2)(h3:Rd c T x3 v3)(h4:Rd c T x4 v4)(h:PS P f [v0,v1,v2,v3,v4] r)(ht:Am [(x0,v0),(x1,v1),(x2,v2),(x3,v3),(x4,v4)]=true)(hf:r.frz=r'):Stp c P ⟨dst,.call ⟨.value (.func f),#[x0,x1,x2,x3,x4],ats⟩,ty,pos,after,g⟩ T S [(x0,v0),(x1,v1),(x2,v2),(x3,v3),(x4,v4)] [] r' []:=hf▸XM h0 h1 h2 h3 h4 h ht
theorem build5{x0 x1 x2 x3 x4:Operand}{v0 v1 v2 v3 v4:AV}{j0 j1 j2 j3 j4:Nat}{zl:List Value}{pl:List (Nat×Nat)}[TSt P t zl pl](h0:Rd c T x0 v0)(h1:Rd c T x1 v1)(h2:Rd c T x2 v2)(h3:Rd c T x3 v3)(h4:Rd c T x4 v4)(hf:FI pl (zl.map .prim) [(j0,v0),(j1,v1),(j2,v2),(j3,v3),(j4,v4)]=some cs):Stp c P ⟨dst,.build t #[(j0,x0),(j1,x1),(j2,x2),(j3,x3),(j4,x4)],ty,pos,after,g⟩ T S [(x0,v0),(x1,v1),(x2,v2),(x3,v3),(x4,v4)] [] (.agg cs) []:=⟨.build (ps:=[(j0,x0,v0),(j1,x1,v1),(j2,x2,v2),(j3,x3,v3),(j4,x4,v4)]) TSt.h hf,(.cons h0 (.cons h1 (.cons h2 (.cons h3 (.cons h4 .nil))))),.nil⟩
theorem func5{x0 x1 x2 x3 x4:Operand}{v0 v1 v2 v3 v4:AV}{f:FuncId}(h0:Rd c T x0 v0)(h1:Rd c T x1 v1)(h2:Rd c T x2 v2)(h3:Rd c T x3 v3)(h4:Rd c T x4 v4)(hs:B4 [v0,v1,v2,v3,v4]=true):Stp c P ⟨dst,.makeFunc (.func f) #[] #[x0,x1,x2,x3,x4],ty,pos,after,g⟩ T S [(x0,v0),(x1,v1),(x2,v2),(x3,v3),(x4,v4)] [] (.fn f [v0,v1,v2,v3,v4]) []:=⟨.makeFunc (xs:=[(x0,v0),(x1,v1),(x2,v2),(x3,v3),(x4,v4)]) hs,(.cons h0 (.cons h1 (.cons h2 (.cons h3 (.cons h4 .nil))))),.nil⟩
theorem build6{x0 x1 x2 x3 x4 x5:Operand}{v0 v1 v2 v3 v4 v5:AV}{j0 j1 j2 j3 j4 j5:Nat}{zl:List Value}{pl:List (Nat×Nat)}[TSt P t zl pl](h0:Rd c T x0 v0)(h1:Rd c T x1 v1)(h2:Rd c T x2 v2)(h3:Rd c T x3 v3)(h4:Rd c T x4 v4)(h5:Rd c T x5 v5)(hf:FI pl (zl.map .prim) [(j0,v0),(j1,v1),(j2,v2),(j3,v3),(j4,v4),(j5,v5)]=some cs):Stp c P ⟨dst,.build t #[(j0,x0),(j1,x1),(j2,x2),(j3,x3),(j4,x4),(j5,x5)],ty,pos,after,g⟩ T S [(x0,v0),(x1,v1),(x2,v2),(x3,v3),(x4,v4),(x5,v5)] [] (.agg cs) []:=⟨.build (ps:=[(j0,x0,v0),(j1,x1,v1),(j2,x2,v2),(j3,x3,v3),(j4,x4,v4),(j5,x5,v5)]) TSt.h hf,(.cons h0 (.cons h1 (.cons h2 (.cons h3 (.cons h4 (.cons h5 .nil)))))),.nil⟩
theorem func6{x0 x1 x2 x3 x4 x5:Operand}{v0 v1 v2 v3 v4 v5:AV}{f:FuncId}(h0:Rd c T x0 v0)(h1:Rd c T x1 v1)(h2:Rd c T x2 v2)(h3:Rd c T x3 v3)(h4:Rd c T x4 v4)(h5:Rd c T x5 v5)(hs:B4 [v0,v1,v2,v3,v4,v5]=true):Stp c P ⟨dst,.makeFunc (.func f) #[] #[x0,x1,x2,x3,x4,x5],ty,pos,after,g⟩ T S [(x0,v0),(x1,v1),(x2,v2),(x3,v3),(x4,v4),(x5,v5)] [] (.fn f [v0,v1,v2,v3,v4,v5]) []:=⟨.makeFunc (xs:=[(x0,v0),(x1,v1),(x2,v2),(x3,v3),(x4,v4),(x5,v5)]) hs,(.cons h0 (.cons h1 (.cons h2 (.cons h3 (.cons h4 (.cons h5 .nil)))))),.nil⟩
theorem build7{x0 x1 x2 x3 x4 x5 x6:Operand}{v0 v1 v2 v3 v4 v5 v6:AV}{j0 j1 j2 j3 j4 j5 j6:Nat}{zl:List Value}{pl:List (Nat×Nat)}[TSt P t zl pl](h0:Rd c T x0 v0)(h1:Rd c T x1 v1)(h2:Rd c T x2 v2)(h3:Rd c T x3 v3)(h4:Rd c T x4 v4)(h5:Rd c T x5 v5)(h6:Rd c T x6 v6)(hf:FI pl (zl.map .prim) [(j0,v0),(j1,v1),(j2,v2),(j3,v3),(j4,v4),(j5,v5),(j6,v6)]=some cs):Stp c P ⟨dst,.build t #[(j0,x0),(j1,x1),(j2,x2),(j3,x3),(j4,x4),(j5,x5),(j6,x6)],ty,pos,after,g⟩ T S [(x0,v0),(x1,v1),(x2,v2),(x3,v3),(x4,v4),(x5,v5),(x6,v6)] [] (.agg cs) []:=⟨.build (ps:=[(j0,x0,v0),(j1,x1,v1),(j2,x2,v2),(j3,x3,v3),(j4,x4,v4),(j5,x5,v5),(j6,x6,v6)]) TSt.h hf,(.cons h0 (.cons h1 (.cons h2 (.cons h3 (.cons h4 (.cons h5 (.cons h6 .nil))))))),.nil⟩
theorem func7{x0 x1 x2 x3 x4 x5 x6:Operand}{v0 v1 v2 v3 v4 v5 v6:AV}{f:FuncId}(h0:Rd c T x0 v0)(h1:Rd c T x1 v1)(h2:Rd c T x2 v2)(h3:Rd c T x3 v3)(h4:Rd c T x4 v4)(h5:Rd c T x5 v5)(h6:Rd c T x6 v6)(hs:B4 [v0,v1,v2,v3,v4,v5,v6]=true):Stp c P ⟨dst,.makeFunc (.func f) #[] #[x0,x1,x2,x3,x4,x5,x6],ty,pos,after,g⟩ T S [(x0,v0),(x1,v1),(x2,v2),(x3,v3),(x4,v4),(x5,v5),(x6,v6)] [] (.fn f [v0,v1,v2,v3,v4,v5,v6]) []:=⟨.makeFunc (xs:=[(x0,v0),(x1,v1),(x2,v2),(x3,v3),(x4,v4),(x5,v5),(x6,v6)]) hs,(.cons h0 (.cons h1 (.cons h2 (.cons h3 (.cons h4 (.cons h5 (.cons h6 .nil))))))),.nil⟩
end W
end
end
section
theorem KI{Zr:Zs}{z':AC×List Nat}:∀{S:List AC} {p:Nat} {e:AC},S[p]?=some e->Zr.map (·.1)=S.eraseIdx p->∃Z2:Zs,Z2.Perm (z'::Zr)/\Z2.map (·.1)=S.set p z'.1
 |[],p,e,h,_=>by simp at h
 |a::S,0,e,h,hm=>⟨z'::Zr,.refl _,by simpa using hm⟩
 |a::S,p+1,e,h,hm=>by
  simp only[List.eraseIdx_cons_succ]at hm;cases Zr with
  |nil=>simp at hm
  |cons zr Zr=>
   simp only[List.map_cons,List.cons.injEq]at hm;obtain⟨Z0,h1,h2⟩:=KI (Zr:=Zr) (z':=z') (S:=S) (p:=p) (e:=e) (by simpa using h) hm.2;exact⟨zr::Z0,(h1.cons zr).trans (List.Perm.swap ..),by simp[h2,hm.1]⟩
section
variable {P:Program}{dst:Option Tmp}{f:FuncId}{xs:List (Operand×AV)}{ats:Array TypeId}{ty:TypeId}{pos:String}{after:Array Edge}{g:Option (Nat×Bool)}{X p:Nat}{o o':AO}{r:AV}
def PO(P:Program)(f:FuncId)(args:List AV)(X:Nat)(o:AO)(r:AV)(o':AO):Prop:=Spec P f args [(X,o)] λr' S'=>r'=r/\S'=[(X,o')]
theorem G5(h:PO P f (xs.map (·.2)) X o r o')(ht:Am xs=true:=by rfl):OpT P ⟨dst,.call ⟨.value (.func f),(xs.map (·.1)).toArray,ats⟩,ty,pos,after,g⟩ xs [(p,(X,o))] r.frz [(p,(X,o'))]:=by
 intro nt m0 T S a w hx hS hd hr;obtain⟨m,N,Z,rfl,h2,h3,h4⟩:=hr;have h2':Z.map (·.1)=S:=h2;have hSp:=hS (p,(X,o)) (by simp);simp only at hSp;have hSp2:=hSp;rw[<-h2',List.getElem?_map]at hSp2;cases hz:Z[p]? with
 |none=>rw[hz]at hSp2;cases hSp2
 |some z=>
  rw[hz]at hSp2;simp only[Option.map_some,Option.some.injEq]at hSp2;have G1:=h3.perm (Ez hz);refine Gf (λ_=>rfl) h.fn ?_;refine(h.run (S.eraseIdx p) m N (z::Z.eraseIdx p) _ (by simp[hSp2,Fg,h2']) G1.self (by have:=EW (CQ ht) λq hq=>h4.ev (hx q hq);simpa[Function.comp_def]using this)).mono ?_;rintro e w' ⟨v,r',S',m',N',Z',br,rfl,rfl,hm,G',hv,rfl,rfl⟩;obtain⟨G2,hle⟩:=Good.freeze (ex:=br) (ex':=[]) (by simpa using h3.after G') _ rfl;cases Z' with
  |nil=>simp at hm
  |cons z' Zr=>
   simp only[List.map_cons,List.cons_append,List.nil_append,List.cons.injEq]at hm;obtain⟨Z2,h5,h6⟩:=KI (z':=z') hSp hm.2;refine⟨v,rfl,{m' with F:=λb=>m'.F b\/b∈br},N',Z2,rfl,?_,G2.perm h5.symm,((h4.mono G'.le).mono hle).put hd (VV.frz hle (λb hb=>⟨.inr hb,rfl⟩) hv)⟩;simp only[AX];rw[h6,hm.1]
end
theorem Gc{P:Program}{t:Nat}{Sf S':List AC}{Q:AV->List AC->Prop}{st:St}{a:AV}(h:Ab st.T t=some a)(ha:ntup a=true)(hS:(S'++Sf).Sublist st.S)(hQ:Q a S'):Ends P [.tmp t] Sf Q st:=
 ⟨[a],[a],st.S,S',.cons (.tmp h) ha .nil,.cons (.cell .same) .nil,hS,hQ⟩
namespace W
variable {P:Program}{dst:Option Tmp}{ty:TypeId}{pos:String}{after:Array Edge}{g:Option (Nat×Bool)}{T:List (Nat×AV)}{S:List AC}{c:Option (List Bool)}{X p:Nat}{o o':AO}{r r':AV}{f:FuncId}{ats:Array TypeId}
theorem callO1{x0:Operand}{v0:AV}(h0:Rd c T x0 v0)(hSp:At S p (X,o))(h:PO P f [v0] X o r o')(ht:Am [(x0,v0)]=true)(hf:r.frz=r'):Stp c P ⟨dst,.call ⟨.value (.func f),#[x0],ats⟩,ty,pos,after,g⟩ T S [(x0,v0)] [(p,(X,o))] r' [(p,(X,o'))]:=⟨hf▸G5 (xs:=[(x0,v0)]) h ht,(.cons h0 .nil),.cons hSp .nil⟩
theorem callO2{x0 x1:Operand}{v0 v1:AV}(h0:Rd c T x0 v0)(h1:Rd c T x1 v1)(hSp:At S p (X,o))(h:PO P f [v0,v1] X o r o')(ht:Am [(x0,v0),(x1,v1)]=true)(hf:r.frz=r'):Stp c P ⟨dst,.call ⟨.value (.func f),#[x0,x1],ats⟩,ty,pos,after,g⟩ T S [(x0,v0),(x1,v1)] [(p,(X,o))] r' [(p,(X,o'))]:=⟨hf▸G5 (xs:=[(x0,v0),(x1,v1)]) h ht,(.cons h0 (.cons h1 .nil)),.cons hSp .nil⟩
theorem callO4{x0 x1 x2 x3:Operand}{v0 v1 v2 v3:AV}(h0:Rd c T x0 v0)(h1:Rd c T x1 v1)(h2:Rd c T x2 v2)(h3:Rd c T x3 v3)(hSp:At S p (X,o))(h:PO P f [v0,v1,v2,v3] X o r o')(ht:Am [(x0,v0),(x1,v1),(x2,v2),(x3,v3)]=true)(hf:r.frz=r'):Stp c P ⟨dst,.call ⟨.value (.func f),#[x0,x1,x2,x3],ats⟩,ty,pos,after,g⟩ T S [(x0,v0),(x1,v1),(x2,v2),(x3,v3)] [(p,(X,o))] r' [(p,(X,o'))]:=⟨hf▸G5 (xs:=[(x0,v0),(x1,v1),(x2,v2),(x3,v3)]) h ht,(.cons h0 (.cons h1 (.cons h2 (.cons h3 .nil)))),.cons hSp .nil⟩
theorem callO5{x0 x1 x2 x3 x4:Operand}{v0 v1 v2 v3 v4:AV}(h0:Rd c T x0 v0)(h1:Rd c T x1 v1)(h2:Rd c T x2 v2)(h3:Rd c T x3 v3)(h4:Rd c T x4 v4)(hSp:At S p (X,o))(h:PO P f [v0,v1,v2,v3,v4] X o r o')(ht:Am [(x0,v0),(x1,v1),(x2,v2),(x3,v3),(x4,v4)]=true)(hf:r.frz=r'):Stp c P ⟨dst,.call ⟨.value (.func f),#[x0,x1,x2,x3,x4],ats⟩,ty,pos,after,g⟩ T S [(x0,v0),(x1,v1),(x2,v2),(x3,v3),(x4,v4)] [(p,(X,o))] r' [(p,(X,o'))]:=⟨hf▸G5 (xs:=[(x0,v0),(x1,v1),(x2,v2),(x3,v3),(x4,v4)]) h ht,(.cons h0 (.cons h1 (.cons h2 (.cons h3 (.cons h4 .nil))))),.cons hSp .nil⟩
end W
end
section
variable {ro:Option Nat}
mutual
inductive Ic(B:AV->AV->Prop):AV->AV->Prop
 |same {a:AV}:Ic B a a
 |base {a b:AV} (h:B a b):Ic B a b
 |agg {as bs:List AV} (h:Ics B as bs):Ic B (.agg as) (.agg bs)
inductive Ics(B:AV->AV->Prop):List AV->List AV->Prop
 |nil:Ics B [] []
 |cons {a b:AV} {as bs:List AV} (h:Ic B a b) (k:Ics B as bs):Ics B (a::as) (b::bs)
end
inductive IceB(X:Nat)(t:TypeId)(sz:Nat)(l:List AV):AV->AV->Prop
 |sl {off n:Nat} (h:off+n<=l.length):IceB X t sz l (.sl X off n) (.lst false t sz (AV.frzs ((l.drop off).take n)))
inductive AdB(X:Nat):AV->AV->Prop
 |nil:AdB X (.prim (.slice none 0 0)) (.sl X 0 0)
section
variable {X:Nat}{t:TypeId}{sz:Nat}{l:List AV}{m m':Mem}{B:AV->AV->Prop}
def Wd1(B:AV->AV->Prop):Prop:=∀a b,B a b->b.width=a.width
def Vc1(B:AV->AV->Prop)(m m':Mem):Prop:=∀a b,B a b->∀c bs,VC m a c bs->VC m' b c bs
theorem IceB.wd1:Wd1 (IceB X t sz l):=λa b h=>by cases h;rfl
theorem AdB.wd1:Wd1 (AdB X):=λa b h=>by cases h;rfl
theorem IceB.vc1(hv:∀off n c,off+n<=l.length->VC m (.sl X off n) c []->VC m' (.lst false t sz (AV.frzs ((l.drop off).take n))) c []):Vc1 (IceB X t sz l) m m':=λa b h c bs k=>by
 cases h with
 |sl h=>
  obtain rfl:=k.1;exact hv _ _ _ h k
theorem AdB.vc1(hv:VC m' (.sl X 0 0) [.slice none 0 0] []):Vc1 (AdB X) m m':=λa b h c bs k=>by
 cases h with
 |nil=>
  obtain⟨⟨rfl,_⟩,rfl⟩:=k;exact hv
mutual
theorem Ic.width(hB:Wd1 B):{a b:AV}->Ic B a b->b.width=a.width
 |_,_,.same=>rfl
 |_,_,.base h=>hB _ _ h
 |_,_,.agg h=>Ics.widths hB h
theorem Ics.widths(hB:Wd1 B):{a b:List AV}->Ics B a b->AV.widths b=AV.widths a
 |_,_,.nil=>rfl
 |_,_,.cons h k=>by simp only[AV.widths,Ic.width hB h,Ics.widths hB k]
end
mutual
theorem Ic.vc(hle:m.Le m')(hB:Vc1 B m m')(hw:m'.w=m.w):{a b:AV}->Ic B a b->{c:List Value}->{bs:List Nat}->VC m a c bs->VC m' b c bs
 |a,_,.same,_,_,k=>VC.mono hle a (λ_ _=>by rw[hw]) k
 |_,_,.base h,_,_,k=>hB _ _ h _ _ k
 |_,_,.agg h,_,_,k=>Ics.vcs hle hB hw h k
theorem Ics.vcs(hle:m.Le m')(hB:Vc1 B m m')(hw:m'.w=m.w):{a b:List AV}->Ics B a b->{c:List Value}->{bs:List Nat}->VCs m a c bs->VCs m' b c bs
 |_,_,.nil,_,_,k=>k
 |_,_,.cons h k,_,_,⟨c1,c2,b1,b2,e1,e2,k1,k2⟩=>⟨c1,c2,b1,b2,e1,e2,Ic.vc hle hB hw h k1,Ics.vcs hle hB hw k k2⟩
end
theorem Ics.len{a b:List AV}(h:Ics B a b):b.length=a.length:=by
 induction a generalizing b with
 |nil=>cases h;rfl
 |cons x a ih=>cases h with|cons h k=>simp[ih k]
theorem Ics.wd(hB:Wd1 B){a b:List AV}{n:Nat}(h:Ics B a b)(hw:∀e∈a,e.width=n):∀e∈b,e.width=n:=by
 induction a generalizing b with
 |nil=>cases h;intro e he;cases he
 |cons x a ih=>
  cases h with
  |cons h k=>
   intro e he;rcases List.mem_cons.1 he with rfl|he
   ·rw[h.width hB];exact hw x (by simp)
   ·exact ih k (λe he=>hw e (by simp[he])) e he
theorem Ics.orel{Y:Nat}{t2:TypeId}{sz2:Nat}{l2 l2':List AV}{bs:List Nat}(hI:Ics B l2 l2')(hle:m.Le m')(hμ:∀L,m.μ Y=some L->m'.μ Y=some L)(hBw:Wd1 B)(hB:Vc1 B m m')(hw:m'.w=m.w)(h:ORel m Y (.row t2 sz2 l2) bs):ORel m' Y (.row t2 sz2 l2') bs:=by
 obtain⟨hU,L,h1,h2,h3⟩:=h;refine⟨hle.U _ hU,L,hμ L h1,h2,?_⟩;rcases h3 with⟨h4,rfl,h5⟩|⟨h4,arr,bs',h5,h6,h7,h8,h9,h10,h11⟩
 ·cases hI;exact .inl ⟨h4,rfl,h5⟩
 ·refine .inr ⟨h4,arr,bs',h5,by rw[hw];exact h6,h7,by rw[hI.len];exact h8,h9,hI.wd hBw h10,?_⟩
  rw[hI.len];exact Ics.vcs hle hB hw hI h11
theorem GE{m0:Mem}{N:Nat}{ex bs:List Nat}{A R:Zs}{Y:Nat}{o o':AO}(G:Good m0 m N (A++((Y,o),bs)::R) ex)(h:ORel m Y o' bs):Good m0 m N (A++((Y,o'),bs)::R) ex:=by
 have e1:Zs.own (A++((Y,o'),bs)::R)=Zs.own (A++((Y,o),bs)::R):=by simp[Zs.own]
 have e2:Zs.keys (A++((Y,o'),bs)::R)=Zs.keys (A++((Y,o),bs)::R):=by simp[Zs.keys]
 refine⟨λz hz=>?_,by rw[e1];exact G.own,by rw[e1];exact G.blk,G.frz,by rw[e2];exact G.keys,by rw[e2];exact G.keyN,G.usedN,G.le,G.os,G.tape,G.output,G.size⟩;rcases List.mem_append.1 hz with hz|hz
 ·exact G.obj z (by simp[hz])
 ·rcases List.mem_cons.1 hz with rfl|hz
  ·exact h
  ·exact G.obj z (by simp[hz])
theorem St.iceIn{nt:Nat}{st:St}{p q Y:Nat}{t2:TypeId}{sz2:Nat}{l2 l2':List AV}(hpq:p≠q)(hS:At st.S p (X,.row t sz l))(hq:At st.S q (Y,.row t2 sz2 l2))(hI:Ics (IceB X t sz l) l2 l2'):D8 nt st λst'=>st'=⟨st.T,(st.S.set p (X,.used)).set q (Y,.row t2 sz2 l2')⟩:=by
 rintro m0 a w ⟨m,N,Z,rfl,h2,h3,h4⟩;obtain⟨bs,hz⟩:=hS.z h2;obtain⟨bs2,hz2⟩:=hq.z h2;obtain⟨R,hp1,hp2⟩:=Fc hpq hz hz2;have G0:=h3.perm hp1;obtain⟨m',hw,G',hle,hv,_⟩:=G0.iced;have hY:ORel m Y (.row t2 sz2 l2) bs2:=G0.obj ((Y,.row t2 sz2 l2),bs2) (by simp);have hY':ORel m' Y (.row t2 sz2 l2) bs2:=G'.obj ((Y,.row t2 sz2 l2),bs2) (by simp)
 have hμ:∀L,m.μ Y=some L->m'.μ Y=some L:=by
  intro L hL;obtain⟨_,L',h5,_⟩:=hY';have:=hle.μ Y L' hY.1 h5;rw[hL]at this;injection this with this
  rw[this];exact h5
 have G2:=GE (A:=[((X,AO.used),[])]) G' (hI.orel hle hμ IceB.wd1 (IceB.vc1 hv) hw hY);exact⟨⟨st.T,(st.S.set p (X,.used)).set q (Y,.row t2 sz2 l2')⟩,⟨m',N,(Z.set p ((X,.used),[])).set q ((Y,.row t2 sz2 l2'),bs2),hw,by rw[List.map_set,List.map_set,h2],G2.perm (hp2 _ _).symm,h4.mono hle⟩,rfl⟩
theorem St.adoptIn{nt:Nat}{st:St}{q Y:Nat}{t2:TypeId}{sz2:Nat}{l2:List AV}{l2':Nat->List AV}(t:TypeId)(sz:Nat)(hq:At st.S q (Y,.row t2 sz2 l2))(hI:∀X,Ics (AdB X) l2 (l2' X)):D8 nt st λst'=>∃X,st'=⟨st.T,(X,.row t sz [])::st.S.set q (Y,.row t2 sz2 (l2' X))⟩:=by
 rintro m0 a w ⟨m,N,Z,rfl,h2,h3,h4⟩;obtain⟨bs2,hz2⟩:=hq.z h2;obtain⟨R,hp1,hp2⟩:=Bd hz2;have G0:=h3.perm hp1;obtain⟨m',hw,G',hle,hv⟩:=G0.adopt t sz;have hY:ORel m Y (.row t2 sz2 l2) bs2:=G0.obj ((Y,.row t2 sz2 l2),bs2) (by simp);have hY':ORel m' Y (.row t2 sz2 l2) bs2:=G'.obj ((Y,.row t2 sz2 l2),bs2) (by simp)
 have hμ:∀L,m.μ Y=some L->m'.μ Y=some L:=by
  intro L hL;obtain⟨_,L',h5,_⟩:=hY';have:=hle.μ Y L' hY.1 h5;rw[hL]at this;injection this with this
  rw[this];exact h5
 have G2:=GE (A:=[((N,AO.row t sz []),[])]) G' ((hI N).orel hle hμ AdB.wd1 (AdB.vc1 hv) hw hY);exact⟨⟨st.T,(N,.row t sz [])::st.S.set q (Y,.row t2 sz2 (l2' N))⟩,⟨m',N+1,((N,.row t sz []),[])::Z.set q ((Y,.row t2 sz2 (l2' N)),bs2),hw,by rw[List.map_cons,List.map_set,h2],G2.perm ((hp2 _).symm.cons _),h4.mono hle⟩,N,rfl⟩
theorem AWP.adoptIn{P:Program}{nt:Nat}{c:Code}{Q:Exit->St->Prop}{T:List (Nat×AV)}{S:List AC}{q Y:Nat}{t2:TypeId}{sz2:Nat}{l2:List AV}{l2':Nat->List AV}(t:TypeId)(sz:Nat)(hq:At S q (Y,.row t2 sz2 l2))(hI:∀X,Ics (AdB X) l2 (l2' X))(k:∀X,AWP ro P nt c Q ⟨T,(X,.row t sz [])::S.set q (Y,.row t2 sz2 (l2' X))⟩):AWP ro P nt c Q ⟨T,S⟩:=
 .ghost (St.adoptIn (st:=⟨T,S⟩) t sz hq hI) λst' ⟨X,e⟩=>by subst e;exact k X
theorem AWP.iceIn{P:Program}{nt:Nat}{c:Code}{Q:Exit->St->Prop}{T:List (Nat×AV)}{S:List AC}{p q Y:Nat}{t2:TypeId}{sz2:Nat}{l2 l2':List AV}(hS:At S p (X,.row t sz l))(hq:At S q (Y,.row t2 sz2 l2))(hpq:Nat.beq p q=false)(hI:Ics (IceB X t sz l) l2 l2')(k:AWP ro P nt c Q ⟨T,(S.set p (X,.used)).set q (Y,.row t2 sz2 l2')⟩):AWP ro P nt c Q ⟨T,S⟩:=
 .ghost (St.iceIn (st:=⟨T,S⟩) (λe=>by subst e;simp at hpq) hS hq hI) λst' e=>by subst e;exact k
theorem AOps.iceIn{P:Program}{nt:Nat}{ops:Array Oper}{rest:List Oper}{Q:Exit->St->Prop}{T:List (Nat×AV)}{S:List AC}{p q Y:Nat}{t2:TypeId}{sz2:Nat}{l2 l2':List AV}(hS:At S p (X,.row t sz l))(hq:At S q (Y,.row t2 sz2 l2))(hpq:Nat.beq p q=false)(hI:Ics (IceB X t sz l) l2 l2')(k:AOps ro P nt ops Q rest ⟨T,(S.set p (X,.used)).set q (Y,.row t2 sz2 l2')⟩):AOps ro P nt ops Q rest ⟨T,S⟩:=
 .ghost (St.iceIn (st:=⟨T,S⟩) (λe=>by subst e;simp at hpq) hS hq hI) λst' e=>by subst e;exact k
theorem AWP.ice{P:Program}{nt:Nat}{c:Code}{Q:Exit->St->Prop}{T:List (Nat×AV)}{S:List AC}{p d n:Nat}(hd:Ab T d=some (.sl X 0 n))(hS:At S p (X,.row t sz l))(hn:n=l.length)(k:AWP ro P nt c Q ⟨(d,.lst false t sz (AV.frzs l))::T,S.set p (X,.used)⟩):AWP ro P nt c Q ⟨T,S⟩:=
 .ghost (St.ice (st:=⟨T,S⟩) hd hS hn) λst' e=>by subst e;exact k
theorem AWP.adopt{P:Program}{nt:Nat}{c:Code}{Q:Exit->St->Prop}{T:List (Nat×AV)}{S:List AC}{d:Nat}(t:TypeId)(sz:Nat)(hd:Ab T d=some (.prim (.slice none 0 0)))(k:∀X,AWP ro P nt c Q ⟨(d,.sl X 0 0)::T,(X,.row t sz [])::S⟩):AWP ro P nt c Q ⟨T,S⟩:=
 .ghost (St.adopt (st:=⟨T,S⟩) t sz hd) λst' ⟨X,e⟩=>by subst e;exact k X
end
end
section
theorem Md{sz:Nat}:∀(xs:List (Nat×AV)) (l l':List AV),Dr sz l xs=some l' ->l'.length=l.length
 |[],l,l',h=>by injection h with h;rw[h]
 |(i,v)::r,l,l',h=>by
  unfold Dr at h;split at h
  ·cases h
  ·rw[Md r _ _ h,List.length_set]
theorem Rel.sub{nt:Nat}{m0:Mem}{T:List (Nat×AV)}{S S':List AC}{a:Act}{w:World}(h:Rel nt m0 ⟨T,S⟩ a w)(k:S'.Sublist S):Rel nt m0 ⟨T,S'⟩ a w:=by
 obtain⟨m,N,Z,h1,h2,h3,h4⟩:=h;obtain⟨Z',hs,hm⟩:=Jy _ k h2;exact⟨m,N,Z',h1,hm,h3.sub hs,h4⟩
class Frz(a:AV)(b:outParam AV):Prop where h:a.frz=b
class Frzs(a:List AV)(b:outParam (List AV)):Prop where h:AV.frzs a=b
instance {u:Value}:Frz (.prim u) (.prim u):=⟨rfl⟩
instance {x o l:Nat}:Frz (.sl x o l) (.sl x o l):=⟨rfl⟩
instance {x o l:Nat}:Frz (.ptr x o l) (.ptr x o l):=⟨rfl⟩
instance {o:Bool}{t:TypeId}{sz:Nat}{l l':List AV}[h:Frzs l l']:Frz (.lst o t sz l) (.lst false t sz l'):=⟨by show AV.lst false t sz (AV.frzs l)=_;rw[h.h]⟩
instance {l l':List AV}[h:Frzs l l']:Frz (.agg l) (.agg l'):=⟨by show AV.agg (AV.frzs l)=_;rw[h.h]⟩
instance {l l':List AV}[h:Frzs l l']:Frz (.tup l) (.tup l'):=⟨by show AV.tup (AV.frzs l)=_;rw[h.h]⟩
instance:Frzs [] []:=⟨rfl⟩
instance {a b:AV}{l l':List AV}[h:Frz a b][k:Frzs l l']:Frzs (a::l) (b::l'):=⟨by show AV.frz a::AV.frzs l=_;rw[h.h,k.h]⟩
instance {α:Type}{f g:α->AV}{l:List α}[h:∀a,Frz (f a) (g a)]:Frzs (l.map f) (l.map g):=⟨by rw[ET,List.map_map];exact List.map_congr_left λa _=>(h a).h⟩
def over:List AV->List AV->List AV
 |w::ws,_::cs=>w::over ws cs
 |_,cs=>cs
def Cq:List AV->Nat->List AV->List AV
 |cs,0,ws=>over ws cs
 |c::cs,k+1,ws=>c::Cq cs k ws
 |[],_+1,_=>[]
def C1:List (Nat×Nat)->Nat->Nat
 |(o,_)::_,0=>o
 |_::r,i+1=>C1 r i
 |[],_=>0
def Bv(pl:List (Nat×Nat)):List AV->List (Nat×AV)->List AV
 |cs,[]=>cs
 |cs,(i,v)::r=>Bv pl (Cq cs (C1 pl i) v.cells) r
def WT:AV->Nat->AV->AV
 |.agg cs,k,v=>.agg (Cq cs k v.cells)
 |_,_,v=>v
theorem A9{pl:List (Nat×Nat)}{l cs:List AV}{xs:List (Nat×AV)}(h:Bv pl l xs=cs)(k:FI pl l xs=some (Bv pl l xs)):FI pl l xs=some cs:=h▸k
theorem U7{l l':List AV}{a b:Nat}{e v:AV}(h:l.set a (WT e b v)=l')(k:C5 e b v=WT e b v):l.set a (C5 e b v)=l':=k▸h
section
variable {P:Program}{dst:Option Tmp}{ty t te:TypeId}{pos:String}{after:Array Edge}{g:Option (Nat×Bool)}{sz:Nat}
theorem D5{ps:List (Nat×Operand×AV)}{zl:List Value}{ag:Bool}{n:Nat}{l:List AV}(he:CW P t=some te)(hz:tZ P te=some zl)(hsz:tSz P te=some sz)(hzs:zl.length=sz)(hag:ag=true\/zl.length=1)(hn:n*sz<=16777216)(h0:0<n*sz)
  (hf:Dr sz (List.replicate n (zAV zl ag)) (ps.map λq=>(q.1,q.2.2))=some l):OpT P ⟨dst,.buildSlice t n (ps.map λq=>(q.1,q.2.1)).toArray,ty,pos,after,g⟩ (ps.map (·.2)) [] (.lst false te sz (AV.frzs l)) []:=by
 intro nt m0 T S a w hx hS hd hr;obtain⟨_,hr',X,rfl⟩:=St.reserve (nt:=nt) ⟨T,S⟩ m0 a w hr;have hl:n=l.length:=by rw[Md _ _ _ hf,List.length_replicate]
 refine Oper.wp_mono (λa' w' h=>?_) (OpT.buildSlice (dst:=dst) (ty:=ty) (t:=t) (pos:=pos) (after:=after) (g:=g) (X:=X) (p:=0) he hz hsz hzs hag hn h0 hf nt m0 T ((X,.gone)::S) a w hx (by simp) hd hr');cases dst with
 |none=>exact Rel.sub h (.cons _ (.refl _))
 |some d=>
  obtain⟨_,h2,rfl⟩:=St.ice (nt:=nt) (st:=⟨AW T (some d) (.sl X 0 n),AX ((X,.gone)::S) [(0,(X,.row te sz l))]⟩) (d:=d) (n:=n) (p:=0) (X:=X) (t:=te) (sz:=sz) (l:=l) (by simp[AW,Al]) .here hl m0 a' w' h;refine Rel.sub (B9 h2 λe v he=>?_) (.cons _ (.refl _));simp only[AW,Al]at he⊢;by_cases e':e=d
  ·simpa[e']using he
  ·simpa[e']using he
end
namespace W
theorem storeN{P:Program}{dst:Option Tmp}{ty t t':TypeId}{pos:String}{after:Array Edge}{g:Option (Nat×Bool)}{T:List (Nat×AV)}{S:List AC}{c:Option (List Bool)}{l l':List AV}{x y:Operand}{X p sz n a b:Nat}{e v:AV}[TSize P t n](hx:Rd c T x (.ptr X a b))(hy:Rd c T y v)(hSp:At S p (X,.row t' sz l))(hi:l[a]?=some e)(h:Hy e b n v=true)(hl:l.set a (C5 e b v)=l'):Stp c P ⟨dst,.store t x y,ty,pos,after,g⟩ T S [(x,.ptr X a b),(y,v)] [(p,(X,.row t' sz l))] .dead [(p,(X,.row t' sz l'))]:=hl▸W.store hx hy hSp hi h
theorem allocN{P:Program}{dst:Option Tmp}{ty t:TypeId}{pos:String}{after:Array Edge}{g:Option (Nat×Bool)}{T:List (Nat×AV)}{S:List AC}{c:Option (List Bool)}{X p:Nat}{zl:List Value}{ag:Bool}{a:AV}{n:Nat}[TZe P t zl][TAg P t ag](hSp:At S p (X,.gone))(h:ag=true\/zl.length=1)(hz:zAV zl ag=a)(hn:zl.length=n):Stp c P ⟨dst,.alloc t,ty,pos,after,g⟩ T S [] [(p,(X,.gone))] (.ptr X 0 0) [(p,(X,.row t n [a]))]:=hz▸hn▸W.alloc hSp h
theorem loadW{P:Program}{dst:Option Tmp}{ty t t':TypeId}{pos:String}{after:Array Edge}{g:Option (Nat×Bool)}{T:List (Nat×AV)}{S:List AC}{c:Option (List Bool)}{l:List AV}{x:Operand}{X p sz n a:Nat}{e:AV}[TAg P t true][TSize P t n](hx:Rd c T x (.ptr X a 0))(hSp:At S p (X,.row t' sz l))(hi:l[a]?=some e)(h:E1 e.cells 0 n true=some e):Stp c P ⟨dst,.load t x,ty,pos,after,g⟩ T S [(x,.ptr X a 0)] [(p,(X,.row t' sz l))] e []:=W.load hx hSp hi h
theorem loadFW{P:Program}{dst:Option Tmp}{ty t:TypeId}{pos:String}{after:Array Edge}{g:Option (Nat×Bool)}{T:List (Nat×AV)}{S:List AC}{c:Option (List Bool)}{x:Operand}{n:Nat}{e:AV}[TAg P t true][TSize P t n](hx:Rd c T x (.fp e.cells))(h:E1 e.cells 0 n true=some e):Stp c P ⟨dst,.load t x,ty,pos,after,g⟩ T S [(x,.fp e.cells)] [] e []:=W.loadF hx h
variable {P:Program}{dst:Option Tmp}{ty t te:TypeId}{pos:String}{after:Array Edge}{g:Option (Nat×Bool)}{sz:Nat}{T:List (Nat×AV)}{S:List AC}{c:Option (List Bool)}{l l':List AV}
theorem litF0{zl:List Value}{ag:Bool}[TEl P t te][TZe P te zl][TSize P te sz][TAg P te ag](hzs:zl.length=sz)(hag:ag=true\/zl.length=1)(hn:0*sz<=16777216)(hpos:0<0*sz)(hf:Dr sz (List.replicate 0 (zAV zl ag)) []=some [])[hz:Frzs [] l']:Stp c P ⟨dst,.buildSlice t 0 #[],ty,pos,after,g⟩ T S [] [] (.lst false te sz l') []:=⟨hz.h▸D5 (ps:=[]) TEl.h TZe.h TSize.h hzs hag hn hpos hf,.nil,.nil⟩
theorem litF1{x0:Operand}{v0:AV}{zl:List Value}{ag:Bool}[TEl P t te][TZe P te zl][TSize P te sz][TAg P te ag](h0:Rd c T x0 v0)(hzs:zl.length=sz)(hag:ag=true\/zl.length=1)(hn:1*sz<=16777216)(hpos:0<1*sz)(hf:Dr sz (List.replicate 1 (zAV zl ag)) [(0,v0)]=some [v0])[hz:Frzs [v0] l']:Stp c P ⟨dst,.buildSlice t 1 #[(0,x0)],ty,pos,after,g⟩ T S [(x0,v0)] [] (.lst false te sz l') []:=⟨hz.h▸D5 (ps:=[(0,x0,v0)]) TEl.h TZe.h TSize.h hzs hag hn hpos hf,(.cons h0 .nil),.nil⟩
theorem litF2{x0:Operand}{v0:AV}{x1:Operand}{v1:AV}{zl:List Value}{ag:Bool}[TEl P t te][TZe P te zl][TSize P te sz][TAg P te ag](h0:Rd c T x0 v0)(h1:Rd c T x1 v1)(hzs:zl.length=sz)(hag:ag=true\/zl.length=1)(hn:2*sz<=16777216)(hpos:0<2*sz)(hf:Dr sz (List.replicate 2 (zAV zl ag)) [(0,v0),(1,v1)]=some [v0,v1])[hz:Frzs [v0,v1] l']:Stp c P ⟨dst,.buildSlice t 2 #[(0,x0),(1,x1)],ty,pos,after,g⟩ T S [(x0,v0),(x1,v1)] [] (.lst false te sz l') []:=⟨hz.h▸D5 (ps:=[(0,x0,v0),(1,x1,v1)]) TEl.h TZe.h TSize.h hzs hag hn hpos hf,(.cons h0 (.cons h1 .nil)),.nil⟩
theorem litF3{x0:Operand}{v0:AV}{x1:Operand}{v1:AV}{x2:Operand}{v2:AV}{zl:List Value}{ag:Bool}[TEl P t te][TZe P te zl][TSize P te sz][TAg P te ag](h0:Rd c T x0 v0)(h1:Rd c T x1 v1)(h2:Rd c T x2 v2)(hzs:zl.length=sz)(hag:ag=true\/zl.length=1)(hn:3*sz<=16777216)(hpos:0<3*sz)(hf:Dr sz (List.replicate 3 (zAV zl ag)) [(0,v0),(1,v1),(2,v2)]=some [v0,v1,v2])[hz:Frzs [v0,v1,v2] l']:Stp c P ⟨dst,.buildSlice t 3 #[(0,x0),(1,x1),(2,x2)],ty,pos,after,g⟩ T S [(x0,v0),(x1,v1),(x2,v2)] [] (.lst false te sz l') []:=⟨hz.h▸D5 (ps:=[(0,x0,v0),(1,x1,v1),(2,x2,v2)]) TEl.h TZe.h TSize.h hzs hag hn hpos hf,(.cons h0 (.cons h1 (.cons h2 .nil))),.nil⟩
theorem litF4{x0:Operand}{v0:AV}{x1:Operand}{v1:AV}{x2:Operand}{v2:AV}{x3:Operand}{v3:AV}{zl:List Value}{ag:Bool}[TEl P t te][TZe P te zl][TSize P te sz][TAg P te ag](h0:Rd c T x0 v0)(h1:Rd c T x1 v1)(h2:Rd c T x2 v2)(h3:Rd c T x3 v3)(hzs:zl.length=sz)(hag:ag=true\/zl.length=1)(hn:4*sz<=16777216)(hpos:0<4*sz)(hf:Dr sz (List.replicate 4 (zAV zl ag)) [(0,v0),(1,v1),(2,v2),(3,v3)]=some [v0,v1,v2,v3])[hz:Frzs [v0,v1,v2,v3] l']:Stp c P ⟨dst,.buildSlice t 4 #[(0,x0),(1,x1),(2,x2),(3,x3)],ty,pos,after,g⟩ T S [(x0,v0),(x1,v1),(x2,v2),(x3,v3)] [] (.lst false te sz l') []:=⟨hz.h▸D5 (ps:=[(0,x0,v0),(1,x1,v1),(2,x2,v2),(3,x3,v3)]) TEl.h TZe.h TSize.h hzs hag hn hpos hf,(.cons h0 (.cons h1 (.cons h2 (.cons h3 .nil)))),.nil⟩
theorem litF5{x0:Operand}{v0:AV}{x1:Operand}{v1:AV}{x2:Operand}{v2:AV}{x3:Operand}{v3:AV}{x4:Operand}{v4:AV}{zl:List Value}{ag:Bool}[TEl P t te][TZe P te zl][TSize P te sz][TAg P te ag](h0:Rd c T x0 v0)(h1:Rd c T x1 v1)(h2:Rd c T x2 v2)(h3:Rd c T x3 v3)(h4:Rd c T x4 v4)(hzs:zl.length=sz)(hag:ag=true\/zl.length=1)(hn:5*sz<=16777216)(hpos:0<5*sz)(hf:Dr sz (List.replicate 5 (zAV zl ag)) [(0,v0),(1,v1),(2,v2),(3,v3),(4,v4)]=some [v0,v1,v2,v3,v4])[hz:Frzs [v0,v1,v2,v3,v4] l']:Stp c P ⟨dst,.buildSlice t 5 #[(0,x0),(1,x1),(2,x2),(3,x3),(4,x4)],ty,pos,after,g⟩ T S [(x0,v0),(x1,v1),(x2,v2),(x3,v3),(x4,v4)] [] (.lst false te sz l') []:=⟨hz.h▸D5 (ps:=[(0,x0,v0),(1,x1,v1),(2,x2,v2),(3,x3,v3),(4,x4,v4)]) TEl.h TZe.h TSize.h hzs hag hn hpos hf,(.cons h0 (.cons h1 (.cons h2 (.cons h3 (.cons h4 .nil))))),.nil⟩
theorem litF6{x0:Operand}{v0:AV}{x1:Operand}{v1:AV}{x2:Operand}{v2:AV}{x3:Operand}{v3:AV}{x4:Operand}{v4:AV}{x5:Operand}{v5:AV}{zl:List Value}{ag:Bool}[TEl P t te][TZe P te zl][TSize P te sz][TAg P te ag](h0:Rd c T x0 v0)(h1:Rd c T x1 v1)(h2:Rd c T x2 v2)(h3:Rd c T x3 v3)(h4:Rd c T x4 v4)(h5:Rd c T x5 v5)(hzs:zl.length=sz)(hag:ag=true\/zl.length=1)(hn:6*sz<=16777216)(hpos:0<6*sz)(hf:Dr sz (List.replicate 6 (zAV zl ag)) [(0,v0),(1,v1),(2,v2),(3,v3),(4,v4),(5,v5)]=some [v0,v1,v2,v3,v4,v5])[hz:Frzs [v0,v1,v2,v3,v4,v5] l']:Stp c P ⟨dst,.buildSlice t 6 #[(0,x0),(1,x1),(2,x2),(3,x3),(4,x4),(5,x5)],ty,pos,after,g⟩ T S [(x0,v0),(x1,v1),(x2,v2),(x3,v3),(x4,v4),(x5,v5)] [] (.lst false te sz l') []:=⟨hz.h▸D5 (ps:=[(0,x0,v0),(1,x1,v1),(2,x2,v2),(3,x3,v3),(4,x4,v4),(5,x5,v5)]) TEl.h TZe.h TSize.h hzs hag hn hpos hf,(.cons h0 (.cons h1 (.cons h2 (.cons h3 (.cons h4 (.cons h5 .nil)))))),.nil⟩
theorem litF7{x0:Operand}{v0:AV}{x1:Operand}{v1:AV}{x2:Operand}{v2:AV}{x3:Operand}{v3:AV}{x4:Operand}{v4:AV}{x5:Operand}{v5:AV}{x6:Operand}{v6:AV}{zl:List Value}{ag:Bool}[TEl P t te][TZe P te zl][TSize P te sz][TAg P te ag](h0:Rd c T x0 v0)(h1:Rd c T x1 v1)(h2:Rd c T x2 v2)(h3:Rd c T x3 v3)(h4:Rd c T x4 v4)(h5:Rd c T x5 v5)(h6:Rd c T x6 v6)(hzs:zl.length=sz)(hag:ag=true\/zl.length=1)(hn:7*sz<=16777216)(hpos:0<7*sz)(hf:Dr sz (List.replicate 7 (zAV zl ag)) [(0,v0),(1,v1),(2,v2),(3,v3),(4,v4),(5,v5),(6,v6)]=some [v0,v1,v2,v3,v4,v5,v6])[hz:Frzs [v0,v1,v2,v3,v4,v5,v6] l']:Stp c P ⟨dst,.buildSlice t 7 #[(0,x0),(1,x1),(2,x2),(3,x3),(4,x4),(5,x5),(6,x6)],ty,pos,after,g⟩ T S [(x0,v0),(x1,v1),(x2,v2),(x3,v3),(x4,v4),(x5,v5),(x6,v6)] [] (.lst false te sz l') []:=⟨hz.h▸D5 (ps:=[(0,x0,v0),(1,x1,v1),(2,x2,v2),(3,x3,v3),(4,x4,v4),(5,x5,v5),(6,x6,v6)]) TEl.h TZe.h TSize.h hzs hag hn hpos hf,(.cons h0 (.cons h1 (.cons h2 (.cons h3 (.cons h4 (.cons h5 (.cons h6 .nil))))))),.nil⟩
theorem litF8{x0:Operand}{v0:AV}{x1:Operand}{v1:AV}{x2:Operand}{v2:AV}{x3:Operand}{v3:AV}{x4:Operand}{v4:AV}{x5:Operand}{v5:AV}{x6:Operand}{v6:AV}{x7:Operand}{v7:AV}{zl:List Value}{ag:Bool}[TEl P t te][TZe P te zl][TSize P te sz][TAg P te ag](h0:Rd c T x0 v0)(h1:Rd c T x1 v1)(h2:Rd c T x2 v2)(h3:Rd c T x3 v3)(h4:Rd c T x4 v4)(h5:Rd c T x5 v5)(h6:Rd c T x6 v6)(h7:Rd c T x7 v7)(hzs:zl.length=sz)(hag:ag=true\/zl.length=1)(hn:8*sz<=16777216)(hpos:0<8*sz)(hf:Dr sz (List.replicate 8 (zAV zl ag)) [(0,v0),(1,v1),(2,v2),(3,v3),(4,v4),(5,v5),(6,v6),(7,v7)]=some [v0,v1,v2,v3,v4,v5,v6,v7])[hz:Frzs [v0,v1,v2,v3,v4,v5,v6,v7] l']:Stp c P ⟨dst,.buildSlice t 8 #[(0,x0),(1,x1),(2,x2),(3,x3),(4,x4),(5,x5),(6,x6),(7,x7)],ty,pos,after,g⟩ T S [(x0,v0),(x1,v1),(x2,v2),(x3,v3),(x4,v4),(x5,v5),(x6,v6),(x7,v7)] [] (.lst false te sz l') []:=⟨hz.h▸D5 (ps:=[(0,x0,v0),(1,x1,v1),(2,x2,v2),(3,x3,v3),(4,x4,v4),(5,x5,v5),(6,x6,v6),(7,x7,v7)]) TEl.h TZe.h TSize.h hzs hag hn hpos hf,(.cons h0 (.cons h1 (.cons h2 (.cons h3 (.cons h4 (.cons h5 (.cons h6 (.cons h7 .nil)))))))),.nil⟩
end W
end
section
variable {ro:Option Nat}
open Go.RowKit
section
variable {P:Program}{nt:Nat}{m0 m:Mem}{X p:Nat}{t:TypeId}{sz:Nat}{e:AV}
theorem St.iceP{st:St}(ds:List Nat)(hd:∀d∈ds,Ab st.T d=some (.ptr X 0 0))(hS:At st.S p (X,.row t sz [e])):D8 nt st λst'=>st'=⟨ds.map (λd=>(d,.fp e.frz.cells))++st.T,st.S.set p (X,.used)⟩:=by
 rintro m0 a w ⟨m,N,Z,rfl,h2,h3,h4⟩;obtain⟨bs,hz⟩:=hS.z h2;obtain⟨R,hp1,hp2⟩:=Bd hz;obtain⟨m',hw,G',hle,_,hv⟩:=(h3.perm hp1).iced;refine⟨_,⟨m',N,Z.set p ((X,.used),[]),hw,by rw[List.map_set,h2],G'.perm (hp2 _).symm,h4.1,h4.2.1.mono hle,?_⟩,rfl⟩;have hT:∀d v,Ab st.T d=some v->∃u,a.tmps[d]?=some u/\VV m v u []:=h4.2.2;clear h4
 induction ds with
 |nil=>exact λd v h=>let ⟨u,h5,h6⟩:=hT d v h;⟨u,h5,h6.mono hle (by simp)⟩
 |cons d ds ih=>
  intro d' v h;simp only[List.map_cons,List.cons_append]at h;rw[Al]at h;split at h
  ·rename_i e';subst e'
   injection h with h;subst h
   obtain⟨u,h5,h6⟩:=hT _ _ (hd d' (by simp));exact⟨u,h5,hv e [u] rfl h6⟩
  ·exact ih (λd hd'=>hd d (by simp[hd'])) d' v h
theorem AWP.iceP{c:Code}{Q:Exit->St->Prop}{T:List (Nat×AV)}{S:List AC}(ds:List Nat)(hS:At S p (X,.row t sz [e])){b:AV}[hf:Frz e b](k:AWP ro P nt c Q ⟨ds.map (λd=>(d,.fp b.cells))++T,S.set p (X,.used)⟩)(hd:∀d∈ds,Ab T d=some (.ptr X 0 0)):AWP ro P nt c Q ⟨T,S⟩:=
 .ghost (St.iceP (st:=⟨T,S⟩) ds hd hS) λst' e=>by subst e;rw[hf.h];exact k
end
section
variable {P:Program}{dst:Option Tmp}{ty t:TypeId}{pos:String}{after:Array Edge}{g:Option (Nat×Bool)}{x:Operand}{v:AV}
theorem OpT.boxF(hs:v.stor=true):OpT P ⟨dst,.box t x,ty,pos,after,g⟩ [(x,v)] [] (.fp v.frz.cells) []:=by
 intro nt m0 T S a w hx hS hd hr;obtain⟨_,hr',X,rfl⟩:=St.reserve (nt:=nt) ⟨T,S⟩ m0 a w hr;refine Oper.wp_mono (λa' w' h=>?_) (OpT.box (dst:=dst) (ty:=ty) (t:=t) (pos:=pos) (after:=after) (g:=g) (X:=X) (p:=0) hs nt m0 T ((X,.gone)::S) a w hx (by simp) hd hr');cases dst with
 |none=>exact Rel.sub h (.cons _ (.refl _))
 |some d=>
  obtain⟨_,h2,rfl⟩:=St.iceP (nt:=nt) (st:=⟨AW T (some d) (.ptr X 0 0),AX ((X,.gone)::S) [(0,(X,.row t v.width [v]))]⟩) (p:=0) (X:=X) (t:=t) (sz:=v.width) (e:=v) [d] (by simp[AW,Al]) .here m0 a' w' h;refine Rel.sub (B9 h2 λe v he=>?_) (.cons _ (.refl _));simp only[AW,Al,List.map_cons,List.map_nil,List.cons_append,List.nil_append]at he⊢;by_cases e':e=d
  ·simpa[e']using he
  ·simpa[e']using he
theorem Jr{a:Act}{w:World}{args:Array Operand}{ats:Array TypeId}{f:FuncId}{vs:Array Value}{K:Act->World->Prop}(ha:a.eval x= .func (.func f) #[] vs)(hf:Kh P f=true)
  (h:Calls P f (args.map a.eval++vs) w λe w'=>∃v,e= .returned v/\K (a.put dst v) w'):Oper.wp P ⟨dst,.call ⟨.value x,args,ats⟩,ty,pos,after,g⟩ a w K (λ_ _ _=>False):=by
 unfold Kh at hf
 have hrun:(execOp a.eval ⟨dst,.call ⟨.value x,args,ats⟩,ty,pos,after,g⟩).run P w= .ok (.enter f (args.map a.eval++vs)) w:=by
  split at hf
  ·rename_i fn hfn
   simp only[Bool.and_eq_true,Bool.not_eq_true']at hf
   have hb:fn.body.isNone=false:=by
    cases hfb:fn.body with
    |none=>rw[hfb]at hf;simp at hf
    |some c=>rfl
   have h1:¬fn.name= "runtime.NumGoroutine" :=by simpa using hf.1
   have h2:¬fn.body=none:=by intro h;rw[h]at hb;cases hb
   simp[execOp,resolve,ha,Deferred.ofValue,invoke,callFunc,program,Sem.run_bind,Sem.run,Result.andThen_ok,hfn,h1,h2]
  ·cases hf
 unfold Oper.wp;rw[hrun];simp only[Oper.upon];refine h.mono λe w' ⟨v,he,hk⟩=>?_
 subst he;exact hk
theorem Gh{m:Mem}:∀{cap:List AV} {us:List Value},B4 cap=true->VCs m cap us []->VTs m cap us []
 |[],us,_,h=>⟨h.1,rfl⟩
 |c::cap,us,hs,h=>by
  simp only[B4,Bool.and_eq_true]at hs;obtain⟨c1,c2,b1,b2,rfl,e,h1,h2⟩:=h;obtain⟨rfl,rfl⟩:b1=[]/\b2=[]:=by simpa using e.symm
  have hl:=VC.len _ h1;have hw:c.width=1:=by cases c<;>first|rfl|(simp[AV.st1]at hs)
  rw[hw]at hl;obtain⟨u,rfl⟩:=List.length_eq_one_iff.1 hl;have hn:ntup c=true:=by cases c<;>first|rfl|(simp[AV.st1]at hs)
  have hv:VV m c u []:=by cases c<;>first|exact h1|(simp[AV.st1]at hs)
  exact(Bi hn).2 ⟨u,c2,[],[],rfl,rfl,hv,Gh hs.2 h2⟩
theorem Jf{m:Mem}:∀{l k:List AV} {us vs:List Value},VTs m l us []->VTs m k vs []->VTs m (l++k) (us++vs) []
 |[],k,us,vs,h,h'=>by obtain⟨rfl,_⟩:=h;exact h'
 |a::l,k,us,vs,h,h'=>by
  have ha:=h.ntup;obtain⟨u,us',b1,b2,rfl,e,h1,h2⟩:=(Bi ha).1 h;obtain⟨rfl,rfl⟩:b1=[]/\b2=[]:=by simpa using e.symm
  exact(Bi ha).2 ⟨u,us'++vs,[],[],rfl,rfl,h1,Jf h2 h'⟩
variable {xs:List (Operand×AV)}{f:FuncId}{cap:List AV}{ats:Array TypeId}{r:AV}
theorem Mu(h:PS P f (xs.map (·.2)++cap) r)(hs:B4 cap=true)(ht:Am xs=true):OpT P ⟨dst,.call ⟨.value x,(xs.map (·.1)).toArray,ats⟩,ty,pos,after,g⟩ ((x,.fn f cap)::xs) [] r.frz []:=by
 intro nt m0 T S a w hx hS hd hr;obtain⟨m,N,Z,rfl,h2,h3,h4⟩:=hr;obtain⟨vs,e1,h5⟩:=h4.ev (hx (x,.fn f cap) (by simp));injection e1 with e1
 refine Jr e1 h.fn ?_
 refine(h.run S m N Z _ h2 h3.self (by
  have:=Jf (EW (CQ ht) λq hq=>h4.ev (hx q (by simp[hq]))) (Gh hs h5);simpa[Function.comp_def]using this)).mono ?_
 rintro e w' ⟨v,r',S',m',N',Z',br,rfl,rfl,hm,G',hv,rfl,rfl⟩;obtain⟨G2,hle⟩:=Good.freeze (ex:=br) (ex':=[]) (by simpa using h3.after G') _ rfl;exact⟨v,rfl,{m' with F:=λb=>m'.F b\/b∈br},N',Z',rfl,hm,G2,((h4.mono G'.le).mono hle).put hd (VV.frz hle (λb hb=>⟨.inr hb,rfl⟩) hv)⟩
variable {X p:Nat}{o o':AO}
theorem Qm(h:PO P f (xs.map (·.2)++cap) X o r o')(hs:B4 cap=true)(ht:Am xs=true):OpT P ⟨dst,.call ⟨.value x,(xs.map (·.1)).toArray,ats⟩,ty,pos,after,g⟩ ((x,.fn f cap)::xs) [(p,(X,o))] r.frz [(p,(X,o'))]:=by
 intro nt m0 T S a w hx hS hd hr;obtain⟨m,N,Z,rfl,h2,h3,h4⟩:=hr;have h2':Z.map (·.1)=S:=h2;have hSp:=hS (p,(X,o)) (by simp);simp only at hSp;have hSp2:=hSp;rw[<-h2',List.getElem?_map]at hSp2;obtain⟨vs,e1,hc5⟩:=h4.ev (hx (x,.fn f cap) (by simp));injection e1 with e1
 cases hz:Z[p]? with
 |none=>rw[hz]at hSp2;cases hSp2
 |some z=>
  rw[hz]at hSp2;simp only[Option.map_some,Option.some.injEq]at hSp2;have G1:=h3.perm (Ez hz);refine Jr e1 h.fn ?_
  refine(h.run (S.eraseIdx p) m N (z::Z.eraseIdx p) _ (by simp[hSp2,Fg,h2']) G1.self (by
   have:=Jf (EW (CQ ht) λq hq=>h4.ev (hx q (by simp[hq]))) (Gh hs hc5);simpa[Function.comp_def]using this)).mono ?_
  rintro e w' ⟨v,r',S',m',N',Z',br,rfl,rfl,hm,G',hv,rfl,rfl⟩;obtain⟨G2,hle⟩:=Good.freeze (ex:=br) (ex':=[]) (by simpa using h3.after G') _ rfl;cases Z' with
  |nil=>simp at hm
  |cons z' Zr=>
   simp only[List.map_cons,List.cons_append,List.nil_append,List.cons.injEq]at hm;obtain⟨Z2,h5,h6⟩:=KI (z':=z') hSp hm.2;refine⟨v,rfl,{m' with F:=λb=>m'.F b\/b∈br},N',Z2,rfl,?_,G2.perm h5.symm,((h4.mono G'.le).mono hle).put hd (VV.frz hle (λb hb=>⟨.inr hb,rfl⟩) hv)⟩;simp only[AX];rw[h6,hm.1]
end
namespace W
variable {P:Program}{dst:Option Tmp}{ty t:TypeId}{pos:String}{after:Array Edge}{g:Option (Nat×Bool)}{T:List (Nat×AV)}{S:List AC}{c:Option (List Bool)}{x:Operand}{v r r':AV}{f:FuncId}{cap:List AV}{ats:Array TypeId}{X p:Nat}{o o':AO}
theorem boxF(hx:Rd c T x v)(hs:v.stor=true){b:AV}[hf:Frz v b]:Stp c P ⟨dst,.box t x,ty,pos,after,g⟩ T S [(x,v)] [] (.fp b.cells) []:=⟨hf.h▸OpT.boxF hs,.cons hx .nil,.nil⟩
theorem func0:Stp c P ⟨dst,.makeFunc (.func f) #[] #[],ty,pos,after,g⟩ T S [] [] (.fn f []) []:=⟨.makeFunc (xs:=[]) rfl,.nil,.nil⟩
theorem callCO0(hx:Rd c T x (.fn f cap))(hSp:At S p (X,o))(h:PO P f (cap) X o r o')(hs:B4 cap=true)(ht:Am []=true)(hf:r.frz=r'):Stp c P ⟨dst,.call ⟨.value x,#[],ats⟩,ty,pos,after,g⟩ T S [(x,.fn f cap)] [(p,(X,o))] r' [(p,(X,o'))]:=⟨hf▸Qm (xs:=[]) h hs ht,(.cons hx .nil),.cons hSp .nil⟩
theorem callC1{x0:Operand}{v0:AV}(hx:Rd c T x (.fn f cap))(h0:Rd c T x0 v0)(h:PS P f (v0::cap) r)(hs:B4 cap=true)(ht:Am [(x0,v0)]=true)(hf:r.frz=r'):Stp c P ⟨dst,.call ⟨.value x,#[x0],ats⟩,ty,pos,after,g⟩ T S [(x,.fn f cap),(x0,v0)] [] r' []:=⟨hf▸Mu (xs:=[(x0,v0)]) h hs ht,(.cons hx (.cons h0 .nil)),.nil⟩
theorem callC2{x0:Operand}{v0:AV}{x1:Operand}{v1:AV}(hx:Rd c T x (.fn f cap))(h0:Rd c T x0 v0)(h1:Rd c T x1 v1)(h:PS P f (v0::v1::cap) r)(hs:B4 cap=true)(ht:Am [(x0,v0),(x1,v1)]=true)(hf:r.frz=r'):Stp c P ⟨dst,.call ⟨.value x,#[x0,x1],ats⟩,ty,pos,after,g⟩ T S [(x,.fn f cap),(x0,v0),(x1,v1)] [] r' []:=⟨hf▸Mu (xs:=[(x0,v0),(x1,v1)]) h hs ht,(.cons hx (.cons h0 (.cons h1 .nil))),.nil⟩
end W
end
section
variable {ro:Option Nat}
inductive Grd(ops:Array Oper)(T:List (Nat×AV)):Option (Nat×Bool)->List Nat->Prop
 |none:Grd ops T .none []
 |met {g t:Nat} {b b':Bool} (ht:(ops[g]?).bind (·.dst)=some t) (hv:Ab T t=some (.prim (.bool b'))) (hb:b'=b):Grd ops T (some (g,b)) [t]
section
variable {P:Program}{nt:Nat}{ops:Array Oper}{Q:Exit->St->Prop}{l rest:List Oper}{acc:List Eff}{st:St}{T:List (Nat×AV)}{S:List AC}{xs:List (Operand×AV)}{rS wS:List (Nat×AC)}{v:AV}{op:Op}{ty:TypeId}{pos:String}{after:Array Edge}{dst:Option Tmp}{g:Option (Nat×Bool)}{ts:List Nat}
theorem Stp.ung{g':Option (Nat×Bool)}{c:Option (List Bool)}(h:Stp c P ⟨dst,op,ty,pos,after,g⟩ T S xs rS v wS):Stp c P ⟨dst,op,ty,pos,after,g'⟩ T S xs rS v wS:=⟨h.op,h.rd,h.get⟩
theorem RGo.sg(h:Stp none P ⟨dst,op,ty,pos,after,g⟩ T S xs rS v wS)(hd:AU dst nt=true)(hg:Grd ops T g ts)(k:RGo P nt ops l Q rest (acc++[⟨⟨dst,op,ty,pos,after,g⟩,ts++Au xs,rS.map (·.1),v,wS⟩]) ⟨AW T dst v,AX S wS⟩):RGo P nt ops l Q (⟨dst,op,ty,pos,after,g⟩::rest) acc ⟨T,S⟩:=by
 cases hg with
 |none=>exact RGo.s h hd k
 |met ht hv hb=>exact RGo.sG ht hv hb h.ung hd k
theorem LW(h:Stp none P ⟨dst,op,ty,pos,after,g⟩ T S xs rS v [])(hd:AU dst nt=true)(hg:Grd ops T g ts)(k:RGo P nt ops l Q rest (acc++[⟨⟨dst,op,ty,pos,after,g⟩,ts++Au xs,rS.map (·.1),v,[]⟩]) ⟨AW T dst v,S⟩):RGo P nt ops l Q (⟨dst,op,ty,pos,after,g⟩::rest) acc ⟨T,S⟩:=RGo.sg h hd hg k
end
namespace W
variable {P:Program}{dst:Option Tmp}{ty:TypeId}{pos:String}{after:Array Edge}{g:Option (Nat×Bool)}{T:List (Nat×AV)}{S:List AC}{c:Option (List Bool)}{x y z:Operand}{v w:AV}
theorem pickB{b p q:Bool}(hx:Rd c T x (.prim (.bool b)))(hy:Rd c T y (.prim (.bool p)))(hz:Rd c T z (.prim (.bool q))):Stp c P ⟨dst,.pick x y z,ty,pos,after,g⟩ T S [(x,.prim (.bool b)),(y,.prim (.bool p)),(z,.prim (.bool q))] [] (.prim (.bool (cond b p q))) []:=by
 cases b<;>exact pick hx hy hz
theorem pickT{b:Bool}{va vb:AV}(hx:Rd c T x (.prim (.bool b)))(hy:Rd c T y va)(hb:b=true)(hz:Rd c T z vb:=by rfl):Stp c P ⟨dst,.pick x y z,ty,pos,after,g⟩ T S [(x,.prim (.bool b)),(y,va),(z,vb)] [] va []:=by
 subst hb;exact pick hx hy hz
theorem pickF{b:Bool}{va vb:AV}(hx:Rd c T x (.prim (.bool b)))(hz:Rd c T z vb)(hb:b=false)(hy:Rd c T y va:=by rfl):Stp c P ⟨dst,.pick x y z,ty,pos,after,g⟩ T S [(x,.prim (.bool b)),(y,va),(z,vb)] [] vb []:=by
 subst hb;exact pick hx hy hz
end W
theorem AOps.sub{P:Program}{nt:Nat}{ops:Array Oper}{Q:Exit->St->Prop}{rest:List Oper}{T:List (Nat×AV)}{S S':List AC}(hS:S'.Sublist S)(h:AOps ro P nt ops Q rest ⟨T,S'⟩):AOps ro P nt ops Q rest ⟨T,S⟩:=λm0 a w hr=>h m0 a w (hr.sub hS)
section
variable {P:Program}{ty t t2:TypeId}{pos:String}{after:Array Edge}{dst:Option Tmp}{g:Option (Nat×Bool)}{x y z:Operand}{f n:Nat}{ar:Array (Nat×Operand)}{c:Option (List Bool)}{T:List (Nat×AV)}{S:List AC}{xs:List (Operand×AV)}{rS wS:List (Nat×AC)}{v:AV}
theorem GB(k:Stp c P ⟨dst,.move x,ty,pos,after,g⟩ T S xs rS v wS):Stp c P ⟨dst,.move x,ty,pos,after,g⟩ T S xs rS v wS:=k
theorem Eh(k:Stp c P ⟨dst,.assign x,ty,pos,after,g⟩ T S xs rS v wS):Stp c P ⟨dst,.assign x,ty,pos,after,g⟩ T S xs rS v wS:=k
theorem GC(k:Stp c P ⟨dst,.load t x,ty,pos,after,g⟩ T S xs rS v wS):Stp c P ⟨dst,.load t x,ty,pos,after,g⟩ T S xs rS v wS:=k
theorem PC(k:Stp c P ⟨dst,.store t x y,ty,pos,after,g⟩ T S xs rS v wS):Stp c P ⟨dst,.store t x y,ty,pos,after,g⟩ T S xs rS v wS:=k
theorem Da(k:Stp c P ⟨dst,.fieldAddr t x f,ty,pos,after,g⟩ T S xs rS v wS):Stp c P ⟨dst,.fieldAddr t x f,ty,pos,after,g⟩ T S xs rS v wS:=k
theorem FM(k:Stp c P ⟨dst,.field t x f,ty,pos,after,g⟩ T S xs rS v wS):Stp c P ⟨dst,.field t x f,ty,pos,after,g⟩ T S xs rS v wS:=k
theorem DZ(k:Stp c P ⟨dst,.indexAddr t x y,ty,pos,after,g⟩ T S xs rS v wS):Stp c P ⟨dst,.indexAddr t x y,ty,pos,after,g⟩ T S xs rS v wS:=k
theorem FK(k:Stp c P ⟨dst,.index t x y,ty,pos,after,g⟩ T S xs rS v wS):Stp c P ⟨dst,.index t x y,ty,pos,after,g⟩ T S xs rS v wS:=k
theorem FO(k:Stp c P ⟨dst,.alloc t,ty,pos,after,g⟩ T S xs rS v wS):Stp c P ⟨dst,.alloc t,ty,pos,after,g⟩ T S xs rS v wS:=k
theorem Stp.g_box(k:Stp c P ⟨dst,.box t x,ty,pos,after,g⟩ T S xs rS v wS):Stp c P ⟨dst,.box t x,ty,pos,after,g⟩ T S xs rS v wS:=k
theorem Gz{bo:BinOp}(k:Stp c P ⟨dst,.binOp bo t x y t2,ty,pos,after,g⟩ T S xs rS v wS):Stp c P ⟨dst,.binOp bo t x y t2,ty,pos,after,g⟩ T S xs rS v wS:=k
theorem IF{uo:UnOp}(k:Stp c P ⟨dst,.unOp uo t x,ty,pos,after,g⟩ T S xs rS v wS):Stp c P ⟨dst,.unOp uo t x,ty,pos,after,g⟩ T S xs rS v wS:=k
theorem GD{ci}(k:Stp c P ⟨dst,.call ci,ty,pos,after,g⟩ T S xs rS v wS):Stp c P ⟨dst,.call ci,ty,pos,after,g⟩ T S xs rS v wS:=k
theorem GA(k:Stp c P ⟨dst,.pick x y z,ty,pos,after,g⟩ T S xs rS v wS):Stp c P ⟨dst,.pick x y z,ty,pos,after,g⟩ T S xs rS v wS:=k
theorem EM(k:Stp c P ⟨dst,.extract x n,ty,pos,after,g⟩ T S xs rS v wS):Stp c P ⟨dst,.extract x n,ty,pos,after,g⟩ T S xs rS v wS:=k
theorem FN(k:Stp c P ⟨dst,.build t ar,ty,pos,after,g⟩ T S xs rS v wS):Stp c P ⟨dst,.build t ar,ty,pos,after,g⟩ T S xs rS v wS:=k
theorem DN(k:Stp c P ⟨dst,.buildSlice t n ar,ty,pos,after,g⟩ T S xs rS v wS):Stp c P ⟨dst,.buildSlice t n ar,ty,pos,after,g⟩ T S xs rS v wS:=k
theorem D3(k:Stp c P ⟨dst,.nilCheck x,ty,pos,after,g⟩ T S xs rS v wS):Stp c P ⟨dst,.nilCheck x,ty,pos,after,g⟩ T S xs rS v wS:=k
theorem D4{fu:Fn}{fi ca:Array Operand}(k:Stp c P ⟨dst,.makeFunc fu fi ca,ty,pos,after,g⟩ T S xs rS v wS):Stp c P ⟨dst,.makeFunc fu fi ca,ty,pos,after,g⟩ T S xs rS v wS:=k
end
theorem AT{cs:List Bool}{T:List (Nat×AV)}{x:Operand}{w v:AV}(h:ev T x=some w:=by rfl)(k:Strips cs w v:=by first|with_reducible exact .a1|with_reducible exact .refl|exact .refl):Rd (some cs) T x v:=.q h k
theorem AS{cs:List Bool}{T:List (Nat×AV)}{x:Operand}{w v:AV}(h:ev T x=some w:=by rfl)(k:Strips cs w v:=by first|with_reducible exact .b12|with_reducible exact .b1|with_reducible exact .b2|with_reducible exact .refl|exact .refl):Rd (some cs) T x v:=.q h k
theorem AR{cs:List Bool}{T:List (Nat×AV)}{x:Operand}{w v:AV}(h:ev T x=some w:=by rfl)(k:Strips cs w v:=by first|with_reducible exact .refl|exact .refl|exact .step (by simp) .refl|exact .step (by simp) (.step (by simp) .refl)|exact .step (by simp) (.step (by simp) (.step (by simp) .refl))):Rd (some cs) T x v:=.q h k
theorem At.f{S:List AC}{p:Nat}{e:AC}(h:At S p e:=by(repeat (first|exact .here|apply At.next))):At S p e:=h
theorem Lk.f{T T':List (Nat×AV)}(h:Looks T T':=by(repeat (first|exact .nil|refine .cons (by first|rfl|assumption) ?_))):Looks T T':=h
theorem Sub.f{S S':List AC}(h:S'.Sublist S:=by(repeat (first|exact List.Sublist.refl _|exact List.Sublist.slnil|apply List.Sublist.cons_cons|apply List.Sublist.cons))):S'.Sublist S:=h
section
variable {P:Program}{ty:TypeId}{pos:String}{after:Array Edge}{dst:Option Tmp}{g:Option (Nat×Bool)}{op:Op}{c:Option (List Bool)}{T:List (Nat×AV)}{S:List AC}{xs:List (Operand×AV)}{rS wS:List (Nat×AC)}{v:AV}
theorem EZ(h:Stp c P ⟨dst,op,ty,pos,after,g⟩ T S xs rS v wS:=by(first
   |(apply GB;first|exact W.move rfl)
   |(apply Eh;first|exact W.assign rfl)
   |(apply GC;first|exact W.loadFW rfl (by exact rfl)|exact W.loadW rfl (by exact At.f) (by first|exact rfl|assumption|exact BB _ (by first|assumption|omega)|exact BB _ (by(try simp);omega)) (by exact rfl)|exact W.loadF rfl (by exact rfl)|exact W.load rfl (by exact At.f) (by first|exact rfl|assumption|exact BB _ (by first|assumption|omega)|exact BB _ (by(try simp);omega)) (by exact rfl))
   |(apply Da;first|exact W.fieldF rfl (by exact rfl)|exact W.fieldA rfl (by exact At.f) (by first|exact Nat.zero_lt_one|assumption|decide|omega|((try simp);omega)|(simp;done)))
   |(apply FM;first|exact W.field rfl (by exact rfl))
   |(apply Gz;first|exact W.lss rfl rfl|exact W.leq rfl rfl|exact W.gtr rfl rfl|exact W.geq rfl rfl|exact W.eqI rfl rfl|exact W.neI rfl rfl|exact W.eqS rfl rfl|exact W.neS rfl rfl|exact W.add rfl rfl ⟨by omega,by omega⟩|exact W.sub rfl rfl ⟨by omega,by omega⟩)
   |(apply IF;first|exact W.not rfl)
   |(apply DZ;first|exact W.idxL rfl rfl rfl (by first|exact rfl|assumption|exact BB _ (by first|assumption|omega)|exact BB _ (by(try simp);omega))|exact W.idx rfl rfl (by exact At.f) rfl (by first|exact Nat.zero_lt_one|assumption|decide|omega|((try simp);omega)|(simp;done)) (Nat.zero_add _))
   |(apply FK;first|exact W.idxStr rfl rfl rfl (by assumption))
   |(apply GD;first|exact W.lenL rfl|exact W.lenS rfl|exact W.lenN rfl|exact W.lenStr rfl|exact W.min2 rfl rfl|exact W.max2 rfl rfl)
   |(apply D3;first|exact W.nilF rfl|exact W.nilA rfl (by exact At.f) (by first|exact Nat.zero_lt_one|assumption|decide|omega|((try simp);omega)|(simp;done)))
   |(apply EM;first|exact W.extract rfl rfl)
   |(apply FN;first|exact W.build0 (by first|exact A9 (by dsimp only[Bv,Cq,C1,over,AV.cells,List.map];try exact rfl) (by exact rfl)|exact rfl)|exact W.build1 rfl (by first|exact A9 (by dsimp only[Bv,Cq,C1,over,AV.cells,List.map];try exact rfl) (by exact rfl)|exact rfl)|exact W.build2 rfl rfl (by first|exact A9 (by dsimp only[Bv,Cq,C1,over,AV.cells,List.map];try exact rfl) (by exact rfl)|exact rfl)|exact W.build3 rfl rfl rfl (by first|exact A9 (by dsimp only[Bv,Cq,C1,over,AV.cells,List.map];try exact rfl) (by exact rfl)|exact rfl)|exact W.build4 rfl rfl rfl rfl (by first|exact A9 (by dsimp only[Bv,Cq,C1,over,AV.cells,List.map];try exact rfl) (by exact rfl)|exact rfl)|exact W.build5 rfl rfl rfl rfl rfl (by first|exact A9 (by dsimp only[Bv,Cq,C1,over,AV.cells,List.map];try exact rfl) (by exact rfl)|exact rfl)|exact W.build6 rfl rfl rfl rfl rfl rfl (by first|exact A9 (by dsimp only[Bv,Cq,C1,over,AV.cells,List.map];try exact rfl) (by exact rfl)|exact rfl)|exact W.build7 rfl rfl rfl rfl rfl rfl rfl (by first|exact A9 (by dsimp only[Bv,Cq,C1,over,AV.cells,List.map];try exact rfl) (by exact rfl)|exact rfl)|exact W.build8 rfl rfl rfl rfl rfl rfl rfl rfl (by first|exact A9 (by dsimp only[Bv,Cq,C1,over,AV.cells,List.map];try exact rfl) (by exact rfl)|exact rfl))
   |(apply DN;first|exact W.litF0 (by exact rfl) (by first|exact .inl rfl|exact .inr rfl) (by decide) (by decide) (by exact rfl)|exact W.litF1 rfl (by exact rfl) (by first|exact .inl rfl|exact .inr rfl) (by decide) (by decide) (by exact rfl)|exact W.litF2 rfl rfl (by exact rfl) (by first|exact .inl rfl|exact .inr rfl) (by decide) (by decide) (by exact rfl)|exact W.litF3 rfl rfl rfl (by exact rfl) (by first|exact .inl rfl|exact .inr rfl) (by decide) (by decide) (by exact rfl)|exact W.litF4 rfl rfl rfl rfl (by exact rfl) (by first|exact .inl rfl|exact .inr rfl) (by decide) (by decide) (by exact rfl)|exact W.litF5 rfl rfl rfl rfl rfl (by exact rfl) (by first|exact .inl rfl|exact .inr rfl) (by decide) (by decide) (by exact rfl)|exact W.litF6 rfl rfl rfl rfl rfl rfl (by exact rfl) (by first|exact .inl rfl|exact .inr rfl) (by decide) (by decide) (by exact rfl)|exact W.litF7 rfl rfl rfl rfl rfl rfl rfl (by exact rfl) (by first|exact .inl rfl|exact .inr rfl) (by decide) (by decide) (by exact rfl)|exact W.litF8 rfl rfl rfl rfl rfl rfl rfl rfl (by exact rfl) (by first|exact .inl rfl|exact .inr rfl) (by decide) (by decide) (by exact rfl))
   |(apply D4;first|exact W.func0|exact W.func1 rfl rfl|exact W.func2 rfl rfl rfl|exact W.func3 rfl rfl rfl rfl|exact W.func4 rfl rfl rfl rfl rfl|exact W.func5 rfl rfl rfl rfl rfl rfl|exact W.func6 rfl rfl rfl rfl rfl rfl rfl|exact W.func7 rfl rfl rfl rfl rfl rfl rfl rfl)
   |(apply GA;first|exact W.pickF rfl rfl (by first|rfl|assumption)|exact W.pickT rfl rfl (by first|rfl|assumption)|exact W.orQ rfl rfl rfl|exact W.andQ rfl rfl rfl|exact W.pickB rfl rfl rfl|exact W.pickP rfl rfl rfl))):Stp c P ⟨dst,op,ty,pos,after,g⟩ T S xs rS v wS:=h
theorem Nl(h:Stp c P ⟨dst,op,ty,pos,after,g⟩ T S xs rS v wS:=by(first
   |(apply GB;first|exact W.move AT)
   |(apply Eh;first|exact W.assign AT)
   |(apply GC;first|exact W.loadFW AT (by exact rfl)|exact W.loadW AT (by exact At.f) (by first|exact rfl|assumption|exact BB _ (by first|assumption|omega)|exact BB _ (by(try simp);omega)) (by exact rfl)|exact W.loadF AT (by exact rfl)|exact W.load AT (by exact At.f) (by first|exact rfl|assumption|exact BB _ (by first|assumption|omega)|exact BB _ (by(try simp);omega)) (by exact rfl))
   |(apply Da;first|exact W.fieldF AT (by exact rfl)|exact W.fieldA AT (by exact At.f) (by first|exact Nat.zero_lt_one|assumption|decide|omega|((try simp);omega)|(simp;done)))
   |(apply FM;first|exact W.field AT (by exact rfl))
   |(apply Gz;first|exact W.lss AT AT|exact W.leq AT AT|exact W.gtr AT AT|exact W.geq AT AT|exact W.eqI AT AT|exact W.neI AT AT|exact W.eqS AT AT|exact W.neS AT AT|exact W.add AT AT ⟨by omega,by omega⟩|exact W.sub AT AT ⟨by omega,by omega⟩)
   |(apply IF;first|exact W.not AT)
   |(apply DZ;first|exact W.idxL AT AT rfl (by first|exact rfl|assumption|exact BB _ (by first|assumption|omega)|exact BB _ (by(try simp);omega))|exact W.idx AT AT (by exact At.f) rfl (by first|exact Nat.zero_lt_one|assumption|decide|omega|((try simp);omega)|(simp;done)) (Nat.zero_add _))
   |(apply FK;first|exact W.idxStr AT AT rfl (by assumption))
   |(apply GD;first|exact W.lenL AT|exact W.lenS AT|exact W.lenN AT|exact W.lenStr AT|exact W.min2 AT AT|exact W.max2 AT AT)
   |(apply D3;first|exact W.nilF AT|exact W.nilA AT (by exact At.f) (by first|exact Nat.zero_lt_one|assumption|decide|omega|((try simp);omega)|(simp;done)))
   |(apply EM;first|exact W.extract AT rfl)
   |(apply FN;first|exact W.build0 (by first|exact A9 (by dsimp only[Bv,Cq,C1,over,AV.cells,List.map];try exact rfl) (by exact rfl)|exact rfl)|exact W.build1 AT (by first|exact A9 (by dsimp only[Bv,Cq,C1,over,AV.cells,List.map];try exact rfl) (by exact rfl)|exact rfl)|exact W.build2 AT AT (by first|exact A9 (by dsimp only[Bv,Cq,C1,over,AV.cells,List.map];try exact rfl) (by exact rfl)|exact rfl)|exact W.build3 AT AT AT (by first|exact A9 (by dsimp only[Bv,Cq,C1,over,AV.cells,List.map];try exact rfl) (by exact rfl)|exact rfl)|exact W.build4 AT AT AT AT (by first|exact A9 (by dsimp only[Bv,Cq,C1,over,AV.cells,List.map];try exact rfl) (by exact rfl)|exact rfl)|exact W.build5 AT AT AT AT AT (by first|exact A9 (by dsimp only[Bv,Cq,C1,over,AV.cells,List.map];try exact rfl) (by exact rfl)|exact rfl)|exact W.build6 AT AT AT AT AT AT (by first|exact A9 (by dsimp only[Bv,Cq,C1,over,AV.cells,List.map];try exact rfl) (by exact rfl)|exact rfl)|exact W.build7 AT AT AT AT AT AT AT (by first|exact A9 (by dsimp only[Bv,Cq,C1,over,AV.cells,List.map];try exact rfl) (by exact rfl)|exact rfl)|exact W.build8 AT AT AT AT AT AT AT AT (by first|exact A9 (by dsimp only[Bv,Cq,C1,over,AV.cells,List.map];try exact rfl) (by exact rfl)|exact rfl))
   |(apply DN;first|exact W.litF0 (by exact rfl) (by first|exact .inl rfl|exact .inr rfl) (by decide) (by decide) (by exact rfl)|exact W.litF1 AT (by exact rfl) (by first|exact .inl rfl|exact .inr rfl) (by decide) (by decide) (by exact rfl)|exact W.litF2 AT AT (by exact rfl) (by first|exact .inl rfl|exact .inr rfl) (by decide) (by decide) (by exact rfl)|exact W.litF3 AT AT AT (by exact rfl) (by first|exact .inl rfl|exact .inr rfl) (by decide) (by decide) (by exact rfl)|exact W.litF4 AT AT AT AT (by exact rfl) (by first|exact .inl rfl|exact .inr rfl) (by decide) (by decide) (by exact rfl)|exact W.litF5 AT AT AT AT AT (by exact rfl) (by first|exact .inl rfl|exact .inr rfl) (by decide) (by decide) (by exact rfl)|exact W.litF6 AT AT AT AT AT AT (by exact rfl) (by first|exact .inl rfl|exact .inr rfl) (by decide) (by decide) (by exact rfl)|exact W.litF7 AT AT AT AT AT AT AT (by exact rfl) (by first|exact .inl rfl|exact .inr rfl) (by decide) (by decide) (by exact rfl)|exact W.litF8 AT AT AT AT AT AT AT AT (by exact rfl) (by first|exact .inl rfl|exact .inr rfl) (by decide) (by decide) (by exact rfl))
   |(apply D4;first|exact W.func0|exact W.func1 AT rfl|exact W.func2 AT AT rfl|exact W.func3 AT AT AT rfl|exact W.func4 AT AT AT AT rfl|exact W.func5 AT AT AT AT AT rfl|exact W.func6 AT AT AT AT AT AT rfl|exact W.func7 AT AT AT AT AT AT AT rfl)
   |(apply GA;first|exact W.pickF AT AT (by first|rfl|assumption)|exact W.pickT AT AT (by first|rfl|assumption)|exact W.orQ AT AT AT|exact W.andQ AT AT AT|exact W.pickB AT AT AT|exact W.pickP AT AT AT))):Stp c P ⟨dst,op,ty,pos,after,g⟩ T S xs rS v wS:=h
theorem Nk(h:Stp c P ⟨dst,op,ty,pos,after,g⟩ T S xs rS v wS:=by(first
   |(apply GB;first|exact W.move AS)
   |(apply Eh;first|exact W.assign AS)
   |(apply GC;first|exact W.loadFW AS (by exact rfl)|exact W.loadW AS (by exact At.f) (by first|exact rfl|assumption|exact BB _ (by first|assumption|omega)|exact BB _ (by(try simp);omega)) (by exact rfl)|exact W.loadF AS (by exact rfl)|exact W.load AS (by exact At.f) (by first|exact rfl|assumption|exact BB _ (by first|assumption|omega)|exact BB _ (by(try simp);omega)) (by exact rfl))
   |(apply Da;first|exact W.fieldF AS (by exact rfl)|exact W.fieldA AS (by exact At.f) (by first|exact Nat.zero_lt_one|assumption|decide|omega|((try simp);omega)|(simp;done)))
   |(apply FM;first|exact W.field AS (by exact rfl))
   |(apply Gz;first|exact W.lss AS AS|exact W.leq AS AS|exact W.gtr AS AS|exact W.geq AS AS|exact W.eqI AS AS|exact W.neI AS AS|exact W.eqS AS AS|exact W.neS AS AS|exact W.add AS AS ⟨by omega,by omega⟩|exact W.sub AS AS ⟨by omega,by omega⟩)
   |(apply IF;first|exact W.not AS)
   |(apply DZ;first|exact W.idxL AS AS rfl (by first|exact rfl|assumption|exact BB _ (by first|assumption|omega)|exact BB _ (by(try simp);omega))|exact W.idx AS AS (by exact At.f) rfl (by first|exact Nat.zero_lt_one|assumption|decide|omega|((try simp);omega)|(simp;done)) (Nat.zero_add _))
   |(apply FK;first|exact W.idxStr AS AS rfl (by assumption))
   |(apply GD;first|exact W.lenL AS|exact W.lenS AS|exact W.lenN AS|exact W.lenStr AS|exact W.min2 AS AS|exact W.max2 AS AS)
   |(apply D3;first|exact W.nilF AS|exact W.nilA AS (by exact At.f) (by first|exact Nat.zero_lt_one|assumption|decide|omega|((try simp);omega)|(simp;done)))
   |(apply EM;first|exact W.extract AS rfl)
   |(apply FN;first|exact W.build0 (by first|exact A9 (by dsimp only[Bv,Cq,C1,over,AV.cells,List.map];try exact rfl) (by exact rfl)|exact rfl)|exact W.build1 AS (by first|exact A9 (by dsimp only[Bv,Cq,C1,over,AV.cells,List.map];try exact rfl) (by exact rfl)|exact rfl)|exact W.build2 AS AS (by first|exact A9 (by dsimp only[Bv,Cq,C1,over,AV.cells,List.map];try exact rfl) (by exact rfl)|exact rfl)|exact W.build3 AS AS AS (by first|exact A9 (by dsimp only[Bv,Cq,C1,over,AV.cells,List.map];try exact rfl) (by exact rfl)|exact rfl)|exact W.build4 AS AS AS AS (by first|exact A9 (by dsimp only[Bv,Cq,C1,over,AV.cells,List.map];try exact rfl) (by exact rfl)|exact rfl)|exact W.build5 AS AS AS AS AS (by first|exact A9 (by dsimp only[Bv,Cq,C1,over,AV.cells,List.map];try exact rfl) (by exact rfl)|exact rfl)|exact W.build6 AS AS AS AS AS AS (by first|exact A9 (by dsimp only[Bv,Cq,C1,over,AV.cells,List.map];try exact rfl) (by exact rfl)|exact rfl)|exact W.build7 AS AS AS AS AS AS AS (by first|exact A9 (by dsimp only[Bv,Cq,C1,over,AV.cells,List.map];try exact rfl) (by exact rfl)|exact rfl)|exact W.build8 AS AS AS AS AS AS AS AS (by first|exact A9 (by dsimp only[Bv,Cq,C1,over,AV.cells,List.map];try exact rfl) (by exact rfl)|exact rfl))
   |(apply DN;first|exact W.litF0 (by exact rfl) (by first|exact .inl rfl|exact .inr rfl) (by decide) (by decide) (by exact rfl)|exact W.litF1 AS (by exact rfl) (by first|exact .inl rfl|exact .inr rfl) (by decide) (by decide) (by exact rfl)|exact W.litF2 AS AS (by exact rfl) (by first|exact .inl rfl|exact .inr rfl) (by decide) (by decide) (by exact rfl)|exact W.litF3 AS AS AS (by exact rfl) (by first|exact .inl rfl|exact .inr rfl) (by decide) (by decide) (by exact rfl)|exact W.litF4 AS AS AS AS (by exact rfl) (by first|exact .inl rfl|exact .inr rfl) (by decide) (by decide) (by exact rfl)|exact W.litF5 AS AS AS AS AS (by exact rfl) (by first|exact .inl rfl|exact .inr rfl) (by decide) (by decide) (by exact rfl)|exact W.litF6 AS AS AS AS AS AS (by exact rfl) (by first|exact .inl rfl|exact .inr rfl) (by decide) (by decide) (by exact rfl)|exact W.litF7 AS AS AS AS AS AS AS (by exact rfl) (by first|exact .inl rfl|exact .inr rfl) (by decide) (by decide) (by exact rfl)|exact W.litF8 AS AS AS AS AS AS AS AS (by exact rfl) (by first|exact .inl rfl|exact .inr rfl) (by decide) (by decide) (by exact rfl))
   |(apply D4;first|exact W.func0|exact W.func1 AS rfl|exact W.func2 AS AS rfl|exact W.func3 AS AS AS rfl|exact W.func4 AS AS AS AS rfl|exact W.func5 AS AS AS AS AS rfl|exact W.func6 AS AS AS AS AS AS rfl|exact W.func7 AS AS AS AS AS AS AS rfl)
   |(apply GA;first|exact W.pickF AS AS (by first|rfl|assumption)|exact W.pickT AS AS (by first|rfl|assumption)|exact W.orQ AS AS AS|exact W.andQ AS AS AS|exact W.pickB AS AS AS|exact W.pickP AS AS AS))):Stp c P ⟨dst,op,ty,pos,after,g⟩ T S xs rS v wS:=h
theorem Nj(h:Stp c P ⟨dst,op,ty,pos,after,g⟩ T S xs rS v wS:=by(first
   |(apply GB;first|exact W.move AR)
   |(apply Eh;first|exact W.assign AR)
   |(apply GC;first|exact W.loadFW AR (by exact rfl)|exact W.loadW AR (by exact At.f) (by first|exact rfl|assumption|exact BB _ (by first|assumption|omega)|exact BB _ (by(try simp);omega)) (by exact rfl)|exact W.loadF AR (by exact rfl)|exact W.load AR (by exact At.f) (by first|exact rfl|assumption|exact BB _ (by first|assumption|omega)|exact BB _ (by(try simp);omega)) (by exact rfl))
   |(apply Da;first|exact W.fieldF AR (by exact rfl)|exact W.fieldA AR (by exact At.f) (by first|exact Nat.zero_lt_one|assumption|decide|omega|((try simp);omega)|(simp;done)))
   |(apply FM;first|exact W.field AR (by exact rfl))
   |(apply Gz;first|exact W.lss AR AR|exact W.leq AR AR|exact W.gtr AR AR|exact W.geq AR AR|exact W.eqI AR AR|exact W.neI AR AR|exact W.eqS AR AR|exact W.neS AR AR|exact W.add AR AR ⟨by omega,by omega⟩|exact W.sub AR AR ⟨by omega,by omega⟩)
   |(apply IF;first|exact W.not AR)
   |(apply DZ;first|exact W.idxL AR AR rfl (by first|exact rfl|assumption|exact BB _ (by first|assumption|omega)|exact BB _ (by(try simp);omega))|exact W.idx AR AR (by exact At.f) rfl (by first|exact Nat.zero_lt_one|assumption|decide|omega|((try simp);omega)|(simp;done)) (Nat.zero_add _))
   |(apply FK;first|exact W.idxStr AR AR rfl (by assumption))
   |(apply GD;first|exact W.lenL AR|exact W.lenS AR|exact W.lenN AR|exact W.lenStr AR|exact W.min2 AR AR|exact W.max2 AR AR)
   |(apply D3;first|exact W.nilF AR|exact W.nilA AR (by exact At.f) (by first|exact Nat.zero_lt_one|assumption|decide|omega|((try simp);omega)|(simp;done)))
   |(apply EM;first|exact W.extract AR rfl)
   |(apply FN;first|exact W.build0 (by first|exact A9 (by dsimp only[Bv,Cq,C1,over,AV.cells,List.map];try exact rfl) (by exact rfl)|exact rfl)|exact W.build1 AR (by first|exact A9 (by dsimp only[Bv,Cq,C1,over,AV.cells,List.map];try exact rfl) (by exact rfl)|exact rfl)|exact W.build2 AR AR (by first|exact A9 (by dsimp only[Bv,Cq,C1,over,AV.cells,List.map];try exact rfl) (by exact rfl)|exact rfl)|exact W.build3 AR AR AR (by first|exact A9 (by dsimp only[Bv,Cq,C1,over,AV.cells,List.map];try exact rfl) (by exact rfl)|exact rfl)|exact W.build4 AR AR AR AR (by first|exact A9 (by dsimp only[Bv,Cq,C1,over,AV.cells,List.map];try exact rfl) (by exact rfl)|exact rfl)|exact W.build5 AR AR AR AR AR (by first|exact A9 (by dsimp only[Bv,Cq,C1,over,AV.cells,List.map];try exact rfl) (by exact rfl)|exact rfl)|exact W.build6 AR AR AR AR AR AR (by first|exact A9 (by dsimp only[Bv,Cq,C1,over,AV.cells,List.map];try exact rfl) (by exact rfl)|exact rfl)|exact W.build7 AR AR AR AR AR AR AR (by first|exact A9 (by dsimp only[Bv,Cq,C1,over,AV.cells,List.map];try exact rfl) (by exact rfl)|exact rfl)|exact W.build8 AR AR AR AR AR AR AR AR (by first|exact A9 (by dsimp only[Bv,Cq,C1,over,AV.cells,List.map];try exact rfl) (by exact rfl)|exact rfl))
   |(apply DN;first|exact W.litF0 (by exact rfl) (by first|exact .inl rfl|exact .inr rfl) (by decide) (by decide) (by exact rfl)|exact W.litF1 AR (by exact rfl) (by first|exact .inl rfl|exact .inr rfl) (by decide) (by decide) (by exact rfl)|exact W.litF2 AR AR (by exact rfl) (by first|exact .inl rfl|exact .inr rfl) (by decide) (by decide) (by exact rfl)|exact W.litF3 AR AR AR (by exact rfl) (by first|exact .inl rfl|exact .inr rfl) (by decide) (by decide) (by exact rfl)|exact W.litF4 AR AR AR AR (by exact rfl) (by first|exact .inl rfl|exact .inr rfl) (by decide) (by decide) (by exact rfl)|exact W.litF5 AR AR AR AR AR (by exact rfl) (by first|exact .inl rfl|exact .inr rfl) (by decide) (by decide) (by exact rfl)|exact W.litF6 AR AR AR AR AR AR (by exact rfl) (by first|exact .inl rfl|exact .inr rfl) (by decide) (by decide) (by exact rfl)|exact W.litF7 AR AR AR AR AR AR AR (by exact rfl) (by first|exact .inl rfl|exact .inr rfl) (by decide) (by decide) (by exact rfl)|exact W.litF8 AR AR AR AR AR AR AR AR (by exact rfl) (by first|exact .inl rfl|exact .inr rfl) (by decide) (by decide) (by exact rfl))
   |(apply D4;first|exact W.func0|exact W.func1 AR rfl|exact W.func2 AR AR rfl|exact W.func3 AR AR AR rfl|exact W.func4 AR AR AR AR rfl|exact W.func5 AR AR AR AR AR rfl|exact W.func6 AR AR AR AR AR AR rfl|exact W.func7 AR AR AR AR AR AR AR rfl)
   |(apply GA;first|exact W.pickF AR AR (by first|rfl|assumption)|exact W.pickT AR AR (by first|rfl|assumption)|exact W.orQ AR AR AR|exact W.andQ AR AR AR|exact W.pickB AR AR AR|exact W.pickP AR AR AR))):Stp c P ⟨dst,op,ty,pos,after,g⟩ T S xs rS v wS:=h
theorem Hm(h:Stp c P ⟨dst,op,ty,pos,after,g⟩ T S xs rS v wS:=by(apply PC;exact W.storeN rfl rfl (by exact At.f) (by first|exact rfl|assumption|exact BB _ (by first|assumption|omega)|exact BB _ (by(try simp);omega)) (by exact rfl) (by first|exact U7 (by(dsimp only[WT,Cq,over,AV.cells,List.set]);try exact rfl) (by exact rfl)|exact rfl))):Stp c P ⟨dst,op,ty,pos,after,g⟩ T S xs rS v wS:=h
end
section
variable {P:Program}{nt:Nat}{ops:Array Oper}{Q:Exit->St->Prop}{rest:List Oper}{T:List (Nat×AV)}{S:List AC}{xs:List (Operand×AV)}{rS wS:List (Nat×AC)}{v:AV}{op:Op}{ty:TypeId}{pos:String}{after:Array Edge}{dst:Option Tmp}
theorem AOps.go(k:AOps ro P nt ops Q rest ⟨AW T dst v,S⟩)(h:Stp none P ⟨dst,op,ty,pos,after,none⟩ T S xs rS v []:=by exact EZ)(hd:AU dst nt=true:=by rfl):AOps ro P nt ops Q (⟨dst,op,ty,pos,after,none⟩::rest) ⟨T,S⟩:=AOps.p h hd k
theorem AOps.goS(k:AOps ro P nt ops Q rest ⟨AW T dst v,AX S wS⟩)(h:Stp none P ⟨dst,op,ty,pos,after,none⟩ T S xs rS v wS:=by exact Hm)(hd:AU dst nt=true:=by rfl):AOps ro P nt ops Q (⟨dst,op,ty,pos,after,none⟩::rest) ⟨T,S⟩:=AOps.s h hd k
theorem AOps.goQ1{g:Nat}{b b':Bool}{t:Nat}(k:AOps ro P nt ops Q rest ⟨AW T dst (.opt (b'==b) v),S⟩)(ht:(ops[g]?).bind (·.dst)=some t:=by rfl)(hv:Ab T t=some (.prim (.bool b')):=by rfl)(h:Stp (some [b'==b]) P ⟨dst,op,ty,pos,after,some (g,b)⟩ T S xs rS v []:=by exact Nl)(hd:AU dst nt=true:=by rfl)(hos:CX xs=true:=by exact rfl):AOps ro P nt ops Q (⟨dst,op,ty,pos,after,some (g,b)⟩::rest) ⟨T,S⟩:=AOps.sQ1 h ht hv hd hos k
theorem AOps.goQ2{c1:Bool}{g:Nat}{b b':Bool}{t:Nat}(k:AOps ro P nt ops Q rest ⟨AW T dst (.opt c1 (.opt (b'==b) v)),S⟩)(ht:(ops[g]?).bind (·.dst)=some t:=by rfl)(hv:Ab T t=some (.opt c1 (.prim (.bool b'))):=by rfl)(h:Stp (some [c1,b'==b]) P ⟨dst,op,ty,pos,after,some (g,b)⟩ T S xs rS v []:=by exact Nk)(hd:AU dst nt=true:=by rfl)(hos:CX xs=true:=by exact rfl):AOps ro P nt ops Q (⟨dst,op,ty,pos,after,some (g,b)⟩::rest) ⟨T,S⟩:=AOps.sQ2 h ht hv hd hos k
theorem AOps.goQ3{c1 c2:Bool}{g:Nat}{b b':Bool}{t:Nat}(k:AOps ro P nt ops Q rest ⟨AW T dst (.opt c1 (.opt c2 (.opt (b'==b) v))),S⟩)(ht:(ops[g]?).bind (·.dst)=some t:=by rfl)(hv:Ab T t=some (.opt c1 (.opt c2 (.prim (.bool b')))):=by rfl)(h:Stp (some [c1,c2,b'==b]) P ⟨dst,op,ty,pos,after,some (g,b)⟩ T S xs rS v []:=by exact Nj)(hd:AU dst nt=true:=by rfl)(hos:CX xs=true:=by exact rfl):AOps ro P nt ops Q (⟨dst,op,ty,pos,after,some (g,b)⟩::rest) ⟨T,S⟩:=AOps.sQ3 h ht hv hd hos k
theorem AOps.goN{g:Nat}{b b':Bool}{t:Nat}(k:AOps ro P nt ops Q rest ⟨AW T dst .dead,S⟩)(ht:(ops[g]?).bind (·.dst)=some t:=by rfl)(hv:Ab T t=some (.prim (.bool b')):=by rfl)(hb:b'= !b:=by first|rfl|assumption|(simp only[Bool.not_true,Bool.not_false];assumption))(hd:AU dst nt=true:=by rfl):AOps ro P nt ops Q (⟨dst,op,ty,pos,after,some (g,b)⟩::rest) ⟨T,S⟩:=AOps.sN ht hv hb hd k
theorem Aj{t:TypeId}{x:Operand}{b:AV}(k:AOps ro P nt ops Q rest ⟨AW T dst (.fp b.cells),S⟩)(hx:Rd none T x v:=by rfl)(hs:v.stor=true:=by rfl)[hf:Frz v b](hd:AU dst nt=true:=by rfl):AOps ro P nt ops Q (⟨dst,.box t x,ty,pos,after,none⟩::rest) ⟨T,S⟩:=AOps.p (W.boxF hx hs) hd k
theorem AOps.q0{x:Operand}{f:FuncId}{cap:List AV}{ats:Array TypeId}{r r':AV}{X p:Nat}{o o':AO}(hx:Rd none T x (.fn f cap):=by rfl)(h:PO P f (cap) X o r o')(k:AOps ro P nt ops Q rest ⟨AW T dst r',AX S [(p,(X,o'))]⟩)(hSp:At S p (X,o):=by exact At.f)[hf:Frz r r'](hs:B4 cap=true:=by first|rfl|assumption)(ht:Am []=true:=by rfl)(hd:AU dst nt=true:=by rfl):AOps ro P nt ops Q (⟨dst,.call ⟨.value x,#[],ats⟩,ty,pos,after,none⟩::rest) ⟨T,S⟩:=AOps.s (W.callCO0 hx hSp h hs ht hf.h) hd k
theorem G6{x0:Operand}{v0:AV}{x:Operand}{f:FuncId}{cap:List AV}{ats:Array TypeId}{r r':AV}(hx:Rd none T x (.fn f cap):=by rfl)(h0:Rd none T x0 v0:=by rfl)(h:PS P f (v0::cap) r)(k:AOps ro P nt ops Q rest ⟨AW T dst r',S⟩)[hf:Frz r r'](hs:B4 cap=true:=by first|rfl|assumption)(ht:Am [(x0,v0)]=true:=by rfl)(hd:AU dst nt=true:=by rfl):AOps ro P nt ops Q (⟨dst,.call ⟨.value x,#[x0],ats⟩,ty,pos,after,none⟩::rest) ⟨T,S⟩:=AOps.p (W.callC1 hx h0 h hs ht hf.h) hd k
theorem AOps.k2{x0:Operand}{v0:AV}{x1:Operand}{v1:AV}{x:Operand}{f:FuncId}{cap:List AV}{ats:Array TypeId}{r r':AV}(hx:Rd none T x (.fn f cap):=by rfl)(h0:Rd none T x0 v0:=by rfl)(h1:Rd none T x1 v1:=by rfl)(h:PS P f (v0::v1::cap) r)(k:AOps ro P nt ops Q rest ⟨AW T dst r',S⟩)[hf:Frz r r'](hs:B4 cap=true:=by first|rfl|assumption)(ht:Am [(x0,v0),(x1,v1)]=true:=by rfl)(hd:AU dst nt=true:=by rfl):AOps ro P nt ops Q (⟨dst,.call ⟨.value x,#[x0,x1],ats⟩,ty,pos,after,none⟩::rest) ⟨T,S⟩:=AOps.p (W.callC2 hx h0 h1 h hs ht hf.h) hd k
theorem Nu{f:FuncId}{ats:Array TypeId}{r r':AV}(h:PS P f [] r)(k:AOps ro P nt ops Q rest ⟨AW T dst r',S⟩)[hf:Frz r r'](ht:Am []=true:=by rfl)(hd:AU dst nt=true:=by rfl):AOps ro P nt ops Q (⟨dst,.call ⟨.value (.func f),#[],ats⟩,ty,pos,after,none⟩::rest) ⟨T,S⟩:=AOps.p (W.callF0 h ht hf.h) hd k
theorem AOps.c1{x0:Operand}{v0:AV}{f:FuncId}{ats:Array TypeId}{r r':AV}(h0:Rd none T x0 v0:=by rfl)(h:PS P f [v0] r)(k:AOps ro P nt ops Q rest ⟨AW T dst r',S⟩)[hf:Frz r r'](ht:Am [(x0,v0)]=true:=by rfl)(hd:AU dst nt=true:=by rfl):AOps ro P nt ops Q (⟨dst,.call ⟨.value (.func f),#[x0],ats⟩,ty,pos,after,none⟩::rest) ⟨T,S⟩:=AOps.p (W.callF1 h0 h ht hf.h) hd k
theorem AOps.c2{x0:Operand}{v0:AV}{x1:Operand}{v1:AV}{f:FuncId}{ats:Array TypeId}{r r':AV}(h0:Rd none T x0 v0:=by rfl)(h1:Rd none T x1 v1:=by rfl)(h:PS P f [v0,v1] r)(k:AOps ro P nt ops Q rest ⟨AW T dst r',S⟩)[hf:Frz r r'](ht:Am [(x0,v0),(x1,v1)]=true:=by rfl)(hd:AU dst nt=true:=by rfl):AOps ro P nt ops Q (⟨dst,.call ⟨.value (.func f),#[x0,x1],ats⟩,ty,pos,after,none⟩::rest) ⟨T,S⟩:=AOps.p (W.callF2 h0 h1 h ht hf.h) hd k
theorem De{x0:Operand}{v0:AV}{x1:Operand}{v1:AV}{x2:Operand}{v2:AV}{f:FuncId}{ats:Array TypeId}{r r':AV}(h0:Rd none T x0 v0:=by rfl)(h1:Rd none T x1 v1:=by rfl)(h2:Rd none T x2 v2:=by rfl)(h:PS P f [v0,v1,v2] r)(k:AOps ro P nt ops Q rest ⟨AW T dst r',S⟩)[hf:Frz r r'](ht:Am [(x0,v0),(x1,v1),(x2,v2)]=true:=by rfl)(hd:AU dst nt=true:=by rfl):AOps ro P nt ops Q (⟨dst,.call ⟨.value (.func f),#[x0,x1,x2],ats⟩,ty,pos,after,none⟩::rest) ⟨T,S⟩:=AOps.p (W.callF3 h0 h1 h2 h ht hf.h) hd k
theorem WD{x0:Operand}{v0:AV}{x1:Operand}{v1:AV}{x2:Operand}{v2:AV}{x3:Operand}{v3:AV}{f:FuncId}{ats:Array TypeId}{r r':AV}(h0:Rd none T x0 v0:=by rfl)(h1:Rd none T x1 v1:=by rfl)(h2:Rd none T x2 v2:=by rfl)(h3:Rd none T x3 v3:=by rfl)(h:PS P f [v0,v1,v2,v3] r)(k:AOps ro P nt ops Q rest ⟨AW T dst r',S⟩)[hf:Frz r r'](ht:Am [(x0,v0),(x1,v1),(x2,v2),(x3,v3)]=true:=by rfl)(hd:AU dst nt=true:=by rfl):AOps ro P nt ops Q (⟨dst,.call ⟨.value (.func f),#[x0,x1,x2,x3],ats⟩,ty,pos,after,none⟩::rest) ⟨T,S⟩:=AOps.p (W.callF4 h0 h1 h2 h3 h ht hf.h) hd k
theorem AOps.c5{x0:Operand}{v0:AV}{x1:Operand}{v1:AV}{x2:Operand}{v2:AV}{x3:Operand}{v3:AV}{x4:Operand}{v4:AV}{f:FuncId}{ats:Array TypeId}{r r':AV}(h0:Rd none T x0 v0:=by rfl)(h1:Rd none T x1 v1:=by rfl)(h2:Rd none T x2 v2:=by rfl)(h3:Rd none T x3 v3:=by rfl)(h4:Rd none T x4 v4:=by rfl)(h:PS P f [v0,v1,v2,v3,v4] r)(k:AOps ro P nt ops Q rest ⟨AW T dst r',S⟩)[hf:Frz r r'](ht:Am [(x0,v0),(x1,v1),(x2,v2),(x3,v3),(x4,v4)]=true:=by rfl)(hd:AU dst nt=true:=by rfl):AOps ro P nt ops Q (⟨dst,.call ⟨.value (.func f),#[x0,x1,x2,x3,x4],ats⟩,ty,pos,after,none⟩::rest) ⟨T,S⟩:=AOps.p (W.callF5 h0 h1 h2 h3 h4 h ht hf.h) hd k
theorem AOps.o1{x0:Operand}{v0:AV}{f:FuncId}{ats:Array TypeId}{r r':AV}{X p:Nat}{o o':AO}(h0:Rd none T x0 v0:=by rfl)(h:PO P f [v0] X o r o')(k:AOps ro P nt ops Q rest ⟨AW T dst r',AX S [(p,(X,o'))]⟩)(hSp:At S p (X,o):=by exact At.f)[hf:Frz r r'](ht:Am [(x0,v0)]=true:=by rfl)(hd:AU dst nt=true:=by rfl):AOps ro P nt ops Q (⟨dst,.call ⟨.value (.func f),#[x0],ats⟩,ty,pos,after,none⟩::rest) ⟨T,S⟩:=AOps.s (W.callO1 h0 hSp h ht hf.h) hd k
theorem AOps.o2{x0:Operand}{v0:AV}{x1:Operand}{v1:AV}{f:FuncId}{ats:Array TypeId}{r r':AV}{X p:Nat}{o o':AO}(h0:Rd none T x0 v0:=by rfl)(h1:Rd none T x1 v1:=by rfl)(h:PO P f [v0,v1] X o r o')(k:AOps ro P nt ops Q rest ⟨AW T dst r',AX S [(p,(X,o'))]⟩)(hSp:At S p (X,o):=by exact At.f)[hf:Frz r r'](ht:Am [(x0,v0),(x1,v1)]=true:=by rfl)(hd:AU dst nt=true:=by rfl):AOps ro P nt ops Q (⟨dst,.call ⟨.value (.func f),#[x0,x1],ats⟩,ty,pos,after,none⟩::rest) ⟨T,S⟩:=AOps.s (W.callO2 h0 h1 hSp h ht hf.h) hd k
theorem AOps.o4{x0:Operand}{v0:AV}{x1:Operand}{v1:AV}{x2:Operand}{v2:AV}{x3:Operand}{v3:AV}{f:FuncId}{ats:Array TypeId}{r r':AV}{X p:Nat}{o o':AO}(h0:Rd none T x0 v0:=by rfl)(h1:Rd none T x1 v1:=by rfl)(h2:Rd none T x2 v2:=by rfl)(h3:Rd none T x3 v3:=by rfl)(h:PO P f [v0,v1,v2,v3] X o r o')(k:AOps ro P nt ops Q rest ⟨AW T dst r',AX S [(p,(X,o'))]⟩)(hSp:At S p (X,o):=by exact At.f)[hf:Frz r r'](ht:Am [(x0,v0),(x1,v1),(x2,v2),(x3,v3)]=true:=by rfl)(hd:AU dst nt=true:=by rfl):AOps ro P nt ops Q (⟨dst,.call ⟨.value (.func f),#[x0,x1,x2,x3],ats⟩,ty,pos,after,none⟩::rest) ⟨T,S⟩:=AOps.s (W.callO4 h0 h1 h2 h3 hSp h ht hf.h) hd k
theorem IK{x0:Operand}{v0:AV}{x1:Operand}{v1:AV}{x2:Operand}{v2:AV}{x3:Operand}{v3:AV}{x4:Operand}{v4:AV}{f:FuncId}{ats:Array TypeId}{r r':AV}{X p:Nat}{o o':AO}(h0:Rd none T x0 v0:=by rfl)(h1:Rd none T x1 v1:=by rfl)(h2:Rd none T x2 v2:=by rfl)(h3:Rd none T x3 v3:=by rfl)(h4:Rd none T x4 v4:=by rfl)(h:PO P f [v0,v1,v2,v3,v4] X o r o')(k:AOps ro P nt ops Q rest ⟨AW T dst r',AX S [(p,(X,o'))]⟩)(hSp:At S p (X,o):=by exact At.f)[hf:Frz r r'](ht:Am [(x0,v0),(x1,v1),(x2,v2),(x3,v3),(x4,v4)]=true:=by rfl)(hd:AU dst nt=true:=by rfl):AOps ro P nt ops Q (⟨dst,.call ⟨.value (.func f),#[x0,x1,x2,x3,x4],ats⟩,ty,pos,after,none⟩::rest) ⟨T,S⟩:=AOps.s (W.callO5 h0 h1 h2 h3 h4 hSp h ht hf.h) hd k
end
end
section
variable {ro:Option Nat}
section
variable {P:Program}{nt:Nat}{ops:Array Oper}{Q:Exit->St->Prop}{rest:List Oper}{T:List (Nat×AV)}{S:List AC}{xs:List (Operand×AV)}{rS wS:List (Nat×AC)}{v:AV}{op:Op}{ty:TypeId}{pos:String}{after:Array Edge}{dst:Option Tmp}{l:List Oper}{acc:List Eff}
theorem RGo.go{g:Option (Nat×Bool)}{ts:List Nat}(k:RGo P nt ops l Q rest (acc++[⟨⟨dst,op,ty,pos,after,g⟩,ts++Au xs,rS.map (·.1),v,[]⟩]) ⟨AW T dst v,S⟩)(h:Stp none P ⟨dst,op,ty,pos,after,g⟩ T S xs rS v []:=by exact EZ)(hd:AU dst nt=true:=by rfl)(hg:Grd ops T g ts:=by first|exact .none|exact .met rfl rfl (by first|rfl|assumption)):RGo P nt ops l Q (⟨dst,op,ty,pos,after,g⟩::rest) acc ⟨T,S⟩:=LW h hd hg k
theorem RGo.goS{g:Option (Nat×Bool)}{ts:List Nat}(k:RGo P nt ops l Q rest (acc++[⟨⟨dst,op,ty,pos,after,g⟩,ts++Au xs,rS.map (·.1),v,wS⟩]) ⟨AW T dst v,AX S wS⟩)(h:Stp none P ⟨dst,op,ty,pos,after,g⟩ T S xs rS v wS:=by exact Hm)(hd:AU dst nt=true:=by rfl)(hg:Grd ops T g ts:=by first|exact .none|exact .met rfl rfl (by first|rfl|assumption)):RGo P nt ops l Q (⟨dst,op,ty,pos,after,g⟩::rest) acc ⟨T,S⟩:=RGo.sg h hd hg k
theorem RGo.goQ1{g:Nat}{b b':Bool}{t:Nat}(k:RGo P nt ops l Q rest (acc++[⟨⟨dst,op,ty,pos,after,some (g,b)⟩,t::Au xs,rS.map (·.1),(.opt (b'==b) v),[]⟩]) ⟨AW T dst (.opt (b'==b) v),S⟩)(ht:(ops[g]?).bind (·.dst)=some t:=by rfl)(hv:Ab T t=some (.prim (.bool b')):=by rfl)(h:Stp (some [b'==b]) P ⟨dst,op,ty,pos,after,some (g,b)⟩ T S xs rS v []:=by exact Nl)(hd:AU dst nt=true:=by rfl)(hos:CX xs=true:=by exact rfl):RGo P nt ops l Q (⟨dst,op,ty,pos,after,some (g,b)⟩::rest) acc ⟨T,S⟩:=RGo.sQ1 h ht hv hd hos k
theorem RGo.goQ2{c1:Bool}{g:Nat}{b b':Bool}{t:Nat}(k:RGo P nt ops l Q rest (acc++[⟨⟨dst,op,ty,pos,after,some (g,b)⟩,t::Au xs,rS.map (·.1),(.opt c1 (.opt (b'==b) v)),[]⟩]) ⟨AW T dst (.opt c1 (.opt (b'==b) v)),S⟩)(ht:(ops[g]?).bind (·.dst)=some t:=by rfl)(hv:Ab T t=some (.opt c1 (.prim (.bool b'))):=by rfl)(h:Stp (some [c1,b'==b]) P ⟨dst,op,ty,pos,after,some (g,b)⟩ T S xs rS v []:=by exact Nk)(hd:AU dst nt=true:=by rfl)(hos:CX xs=true:=by exact rfl):RGo P nt ops l Q (⟨dst,op,ty,pos,after,some (g,b)⟩::rest) acc ⟨T,S⟩:=RGo.sQ2 h ht hv hd hos k
theorem RGo.goQ3{c1 c2:Bool}{g:Nat}{b b':Bool}{t:Nat}(k:RGo P nt ops l Q rest (acc++[⟨⟨dst,op,ty,pos,after,some (g,b)⟩,t::Au xs,rS.map (·.1),(.opt c1 (.opt c2 (.opt (b'==b) v))),[]⟩]) ⟨AW T dst (.opt c1 (.opt c2 (.opt (b'==b) v))),S⟩)(ht:(ops[g]?).bind (·.dst)=some t:=by rfl)(hv:Ab T t=some (.opt c1 (.opt c2 (.prim (.bool b')))):=by rfl)(h:Stp (some [c1,c2,b'==b]) P ⟨dst,op,ty,pos,after,some (g,b)⟩ T S xs rS v []:=by exact Nj)(hd:AU dst nt=true:=by rfl)(hos:CX xs=true:=by exact rfl):RGo P nt ops l Q (⟨dst,op,ty,pos,after,some (g,b)⟩::rest) acc ⟨T,S⟩:=RGo.sQ3 h ht hv hd hos k
theorem RGo.goN{g:Nat}{b b':Bool}{t:Nat}(k:RGo P nt ops l Q rest (acc++[⟨⟨dst,op,ty,pos,after,some (g,b)⟩,[t],[],.dead,[]⟩]) ⟨AW T dst .dead,S⟩)(ht:(ops[g]?).bind (·.dst)=some t:=by rfl)(hv:Ab T t=some (.prim (.bool b')):=by rfl)(hb:b'= !b:=by first|rfl|assumption|(simp only[Bool.not_true,Bool.not_false];assumption))(hd:AU dst nt=true:=by rfl):RGo P nt ops l Q (⟨dst,op,ty,pos,after,some (g,b)⟩::rest) acc ⟨T,S⟩:=RGo.sN ht hv hb hd k
theorem V2{g:Option (Nat×Bool)}{ts:List Nat}(k:RGo P nt ops l Q rest (acc++[⟨⟨dst,op,ty,pos,after,g⟩,ts++Au xs,rS.map (·.1),v,wS⟩]) ⟨AW T dst v,AX S wS⟩)(h:Stp none P ⟨dst,op,ty,pos,after,g⟩ T S xs rS v wS:=by first|(apply FO;exact W.allocN (by exact At.f) (by first|exact .inl rfl|exact .inr rfl) (by first|(dsimp only[zAV,List.map];try exact rfl)|exact rfl) (by exact rfl))|(apply Stp.g_box;exact W.box rfl (by exact At.f) rfl))(hd:AU dst nt=true:=by rfl)(hg:Grd ops T g ts:=by first|exact .none|exact .met rfl rfl (by first|rfl|assumption)):RGo P nt ops l Q (⟨dst,op,ty,pos,after,g⟩::rest) acc ⟨T,S⟩:=RGo.sg h hd hg k
theorem RGo.q0{g:Option (Nat×Bool)}{ts:List Nat}{x:Operand}{f:FuncId}{cap:List AV}{ats:Array TypeId}{r r':AV}{X p:Nat}{o o':AO}(hx:Rd none T x (.fn f cap):=by rfl)(h:PO P f (cap) X o r o')(k:RGo P nt ops l Q rest (acc++[⟨⟨dst,.call ⟨.value x,#[],ats⟩,ty,pos,after,g⟩,ts++Au [(x,.fn f cap)],[p],r',[(p,(X,o'))]⟩]) ⟨AW T dst r',AX S [(p,(X,o'))]⟩)(hSp:At S p (X,o):=by exact At.f)[hf:Frz r r'](hs:B4 cap=true:=by first|rfl|assumption)(ht:Am []=true:=by rfl)(hd:AU dst nt=true:=by rfl)(hg:Grd ops T g ts:=by first|exact .none|exact .met rfl rfl (by first|rfl|assumption)):RGo P nt ops l Q (⟨dst,.call ⟨.value x,#[],ats⟩,ty,pos,after,g⟩::rest) acc ⟨T,S⟩:=RGo.sg (W.callCO0 hx hSp h hs ht hf.h) hd hg k
theorem RGo.k2{g:Option (Nat×Bool)}{ts:List Nat}{x0:Operand}{v0:AV}{x1:Operand}{v1:AV}{x:Operand}{f:FuncId}{cap:List AV}{ats:Array TypeId}{r r':AV}(hx:Rd none T x (.fn f cap):=by rfl)(h0:Rd none T x0 v0:=by rfl)(h1:Rd none T x1 v1:=by rfl)(h:PS P f (v0::v1::cap) r)(k:RGo P nt ops l Q rest (acc++[⟨⟨dst,.call ⟨.value x,#[x0,x1],ats⟩,ty,pos,after,g⟩,ts++Au [(x,.fn f cap),(x0,v0),(x1,v1)],[],r',[]⟩]) ⟨AW T dst r',S⟩)[hf:Frz r r'](hs:B4 cap=true:=by first|rfl|assumption)(ht:Am [(x0,v0),(x1,v1)]=true:=by rfl)(hd:AU dst nt=true:=by rfl)(hg:Grd ops T g ts:=by first|exact .none|exact .met rfl rfl (by first|rfl|assumption)):RGo P nt ops l Q (⟨dst,.call ⟨.value x,#[x0,x1],ats⟩,ty,pos,after,g⟩::rest) acc ⟨T,S⟩:=LW (W.callC2 hx h0 h1 h hs ht hf.h) hd hg k
theorem RGo.c1{g:Option (Nat×Bool)}{ts:List Nat}{x0:Operand}{v0:AV}{f:FuncId}{ats:Array TypeId}{r r':AV}(h0:Rd none T x0 v0:=by rfl)(h:PS P f [v0] r)(k:RGo P nt ops l Q rest (acc++[⟨⟨dst,.call ⟨.value (.func f),#[x0],ats⟩,ty,pos,after,g⟩,ts++Au [(x0,v0)],[],r',[]⟩]) ⟨AW T dst r',S⟩)[hf:Frz r r'](ht:Am [(x0,v0)]=true:=by rfl)(hd:AU dst nt=true:=by rfl)(hg:Grd ops T g ts:=by first|exact .none|exact .met rfl rfl (by first|rfl|assumption)):RGo P nt ops l Q (⟨dst,.call ⟨.value (.func f),#[x0],ats⟩,ty,pos,after,g⟩::rest) acc ⟨T,S⟩:=LW (W.callF1 h0 h ht hf.h) hd hg k
theorem RGo.c2{g:Option (Nat×Bool)}{ts:List Nat}{x0:Operand}{v0:AV}{x1:Operand}{v1:AV}{f:FuncId}{ats:Array TypeId}{r r':AV}(h0:Rd none T x0 v0:=by rfl)(h1:Rd none T x1 v1:=by rfl)(h:PS P f [v0,v1] r)(k:RGo P nt ops l Q rest (acc++[⟨⟨dst,.call ⟨.value (.func f),#[x0,x1],ats⟩,ty,pos,after,g⟩,ts++Au [(x0,v0),(x1,v1)],[],r',[]⟩]) ⟨AW T dst r',S⟩)[hf:Frz r r'](ht:Am [(x0,v0),(x1,v1)]=true:=by rfl)(hd:AU dst nt=true:=by rfl)(hg:Grd ops T g ts:=by first|exact .none|exact .met rfl rfl (by first|rfl|assumption)):RGo P nt ops l Q (⟨dst,.call ⟨.value (.func f),#[x0,x1],ats⟩,ty,pos,after,g⟩::rest) acc ⟨T,S⟩:=LW (W.callF2 h0 h1 h ht hf.h) hd hg k
theorem RGo.c5{g:Option (Nat×Bool)}{ts:List Nat}{x0:Operand}{v0:AV}{x1:Operand}{v1:AV}{x2:Operand}{v2:AV}{x3:Operand}{v3:AV}{x4:Operand}{v4:AV}{f:FuncId}{ats:Array TypeId}{r r':AV}(h0:Rd none T x0 v0:=by rfl)(h1:Rd none T x1 v1:=by rfl)(h2:Rd none T x2 v2:=by rfl)(h3:Rd none T x3 v3:=by rfl)(h4:Rd none T x4 v4:=by rfl)(h:PS P f [v0,v1,v2,v3,v4] r)(k:RGo P nt ops l Q rest (acc++[⟨⟨dst,.call ⟨.value (.func f),#[x0,x1,x2,x3,x4],ats⟩,ty,pos,after,g⟩,ts++Au [(x0,v0),(x1,v1),(x2,v2),(x3,v3),(x4,v4)],[],r',[]⟩]) ⟨AW T dst r',S⟩)[hf:Frz r r'](ht:Am [(x0,v0),(x1,v1),(x2,v2),(x3,v3),(x4,v4)]=true:=by rfl)(hd:AU dst nt=true:=by rfl)(hg:Grd ops T g ts:=by first|exact .none|exact .met rfl rfl (by first|rfl|assumption)):RGo P nt ops l Q (⟨dst,.call ⟨.value (.func f),#[x0,x1,x2,x3,x4],ats⟩,ty,pos,after,g⟩::rest) acc ⟨T,S⟩:=LW (W.callF5 h0 h1 h2 h3 h4 h ht hf.h) hd hg k
theorem RGo.o2{g:Option (Nat×Bool)}{ts:List Nat}{x0:Operand}{v0:AV}{x1:Operand}{v1:AV}{f:FuncId}{ats:Array TypeId}{r r':AV}{X p:Nat}{o o':AO}(h0:Rd none T x0 v0:=by rfl)(h1:Rd none T x1 v1:=by rfl)(h:PO P f [v0,v1] X o r o')(k:RGo P nt ops l Q rest (acc++[⟨⟨dst,.call ⟨.value (.func f),#[x0,x1],ats⟩,ty,pos,after,g⟩,ts++Au [(x0,v0),(x1,v1)],[p],r',[(p,(X,o'))]⟩]) ⟨AW T dst r',AX S [(p,(X,o'))]⟩)(hSp:At S p (X,o):=by exact At.f)[hf:Frz r r'](ht:Am [(x0,v0),(x1,v1)]=true:=by rfl)(hd:AU dst nt=true:=by rfl)(hg:Grd ops T g ts:=by first|exact .none|exact .met rfl rfl (by first|rfl|assumption)):RGo P nt ops l Q (⟨dst,.call ⟨.value (.func f),#[x0,x1],ats⟩,ty,pos,after,g⟩::rest) acc ⟨T,S⟩:=RGo.sg (W.callO2 h0 h1 hSp h ht hf.h) hd hg k
end
section
variable {P:Program}{nt:Nat}{ops:Array Oper}{Q:Exit->St->Prop}{rest:List Oper}{T:List (Nat×AV)}{S:List AC}{xs:List (Operand×AV)}{rS wS:List (Nat×AC)}{v:AV}{op:Op}{ty:TypeId}{pos:String}{after:Array Edge}{dst:Option Tmp}
theorem IL{xs:Nat->List (Operand×AV)}{rS wS:Nat->List (Nat×AC)}{v:Nat->AV}(k:∀X,AOps ro P nt ops Q rest ⟨AW T dst (v X),AX ((X,.gone)::S) (wS X)⟩)(h:∀X,Stp none P ⟨dst,op,ty,pos,after,none⟩ T ((X,.gone)::S) (xs X) (rS X) (v X) (wS X):=by(intro X;first|(apply FO;exact W.allocN .here (by first|exact .inl rfl|exact .inr rfl) (by first|(dsimp only[zAV,List.map];try exact rfl)|exact rfl) (by exact rfl))|(apply Stp.g_box;exact W.box rfl .here rfl)))(hd:AU dst nt=true:=by rfl):AOps ro P nt ops Q (⟨dst,op,ty,pos,after,none⟩::rest) ⟨T,S⟩:=AOps.rs λX=>AOps.s (h X) hd (k X)
end
section
variable {P:Program}{nt:Nat}{ops:Array Oper}{Q:Exit->St->Prop}{rest:List Oper}{T:List (Nat×AV)}{S:List AC}{l ls:List AV}{ty t t' te:TypeId}{sz X p q:Nat}{x y:Operand}{pos:String}{after:Array Edge}{dst:Option Tmp}
theorem Vw{m b:Nat}(h:m<=1099511627776)(hb:b<=128):m*b<=140737488355328:=Nat.le_trans (Nat.mul_le_mul h hb) (by decide)
theorem XU{m b:Nat}(h:m*b<=140737488355328)(hb:0<b):m<=maxLen:=Nat.le_trans (Nat.le_trans (Nat.le_mul_of_pos_right m hb) h) (by decide)
theorem AOps.goA{m by_:Nat}[TRo P t te sz by_](k:∀Y,AOps ro P nt ops Q rest ⟨AW T dst (.sl Y 0 (m+ls.length)),S.set p (Y,.row te sz (l++ls))⟩)(hx:Rd none T x (.sl X 0 m):=by rfl)(hy:Rd none T y (.lst false t' sz ls):=by rfl)(hSp:At S p (X,.row te sz l):=by exact At.f)(hn:m=l.length:=by first|rfl|assumption|omega|(simp;omega)|simp[*])(hb:(m+ls.length)*by_<=140737488355328:=by first|assumption|exact Vw (by first|assumption|omega|(simp;omega)) (by decide)|omega|(simp;omega))(hby:0<by_:=by decide)(hd:AU dst nt=true:=by rfl):AOps ro P nt ops Q (⟨dst,.call ⟨.builtin .append,#[x,y],#[t,t]⟩,ty,pos,after,none⟩::rest) ⟨T,S⟩:=by
 subst hn;refine AOps.rs λY=>AOps.s (W.app (q:=0) (p:=p+1) (X:=X) (Y:=Y) hx hy .here (.next hSp) rfl hb (XU hb hby) (by simp)) hd (AOps.sub ?_ (k Y))
 ·exact .cons _ (.refl _)
theorem RGo.goA{l0:List Oper}{acc:List Eff}{m by_ Y:Nat}[TRo P t te sz by_](k:RGo P nt ops l0 Q rest (acc++[⟨⟨dst,.call ⟨.builtin .append,#[x,y],#[t,t]⟩,ty,pos,after,none⟩,Au [(x,.sl X 0 m),(y,.lst false t' sz ls)],[q,p],.sl Y 0 (m+ls.length),[(q,(X,.used)),(p,(Y,.row te sz (l++ls)))]⟩]) ⟨AW T dst (.sl Y 0 (m+ls.length)),AX S [(q,(X,.used)),(p,(Y,.row te sz (l++ls)))]⟩)(hx:Rd none T x (.sl X 0 m):=by rfl)(hy:Rd none T y (.lst false t' sz ls):=by rfl)(hSq:At S q (Y,.gone):=by exact At.f)(hSp:At S p (X,.row te sz l):=by exact At.f)(hn:m=l.length:=by first|rfl|assumption|omega|(simp;omega)|simp[*])(hb:(m+ls.length)*by_<=140737488355328:=by first|assumption|exact Vw (by first|assumption|omega|(simp;omega)) (by decide)|omega|(simp;omega))(hqp:q≠p:=by decide)(hby:0<by_:=by decide)(hd:AU dst nt=true:=by rfl):RGo P nt ops l0 Q (⟨dst,.call ⟨.builtin .append,#[x,y],#[t,t]⟩,ty,pos,after,none⟩::rest) acc ⟨T,S⟩:=by
 subst hn;exact RGo.s (W.app hx hy hSq hSp rfl hb (XU hb hby) hqp) hd k
theorem AOps.goL{zl:List Value}{ag:Bool}(v:AV)(k:AOps ro P nt ops Q rest ⟨AW T dst (.lst false te sz [v]),S⟩)[TEl P t te][TZe P te zl][TSize P te sz][TAg P te ag][hz:Frz v v](h0:Rd none T x v:=by exact rfl)(hzs:zl.length=sz:=by exact rfl)(hag:ag=true\/zl.length=1:=by first|exact .inl rfl|exact .inr rfl)(hn:1*sz<=16777216:=by decide)(hpos:0<1*sz:=by decide)(hf:Dr sz (List.replicate 1 (zAV zl ag)) [(0,v)]=some [v]:=by exact rfl)(hd:AU dst nt=true:=by rfl):AOps ro P nt ops Q (⟨dst,.buildSlice t 1 #[(0,x)],ty,pos,after,none⟩::rest) ⟨T,S⟩:=
 AOps.p (W.litF1 h0 hzs hag hn hpos hf) hd k
theorem RGo.goL{l0:List Oper}{acc:List Eff}{zl:List Value}{ag:Bool}(v:AV)(k:RGo P nt ops l0 Q rest (acc++[⟨⟨dst,.buildSlice t 1 #[(0,x)],ty,pos,after,none⟩,Au [(x,v)],[],.lst false te sz [v],[]⟩]) ⟨AW T dst (.lst false te sz [v]),S⟩)[TEl P t te][TZe P te zl][TSize P te sz][TAg P te ag][hz:Frz v v](h0:Rd none T x v:=by exact rfl)(hzs:zl.length=sz:=by exact rfl)(hag:ag=true\/zl.length=1:=by first|exact .inl rfl|exact .inr rfl)(hn:1*sz<=16777216:=by decide)(hpos:0<1*sz:=by decide)(hf:Dr sz (List.replicate 1 (zAV zl ag)) [(0,v)]=some [v]:=by exact rfl)(hd:AU dst nt=true:=by rfl):RGo P nt ops l0 Q (⟨dst,.buildSlice t 1 #[(0,x)],ty,pos,after,none⟩::rest) acc ⟨T,S⟩:=
 RGo.p (W.litF1 h0 hzs hag hn hpos hf) hd k
theorem AOps.g_lit{n:Nat}{ar:Array (Nat×Operand)}{st:St}{g:Option (Nat×Bool)}(k:AOps ro P nt ops Q (⟨dst,.buildSlice t n ar,ty,pos,after,g⟩::rest) st):AOps ro P nt ops Q (⟨dst,.buildSlice t n ar,ty,pos,after,g⟩::rest) st:=k
theorem RGo.g_lit{l0:List Oper}{acc:List Eff}{n:Nat}{ar:Array (Nat×Operand)}{st:St}{g:Option (Nat×Bool)}(k:RGo P nt ops l0 Q (⟨dst,.buildSlice t n ar,ty,pos,after,g⟩::rest) acc st):RGo P nt ops l0 Q (⟨dst,.buildSlice t n ar,ty,pos,after,g⟩::rest) acc st:=k
theorem AOps.g_callv{d:Nat}{xs:Array Operand}{ats:Array TypeId}{st:St}{g:Option (Nat×Bool)}(k:AOps ro P nt ops Q (⟨dst,.call ⟨.value (.tmp d),xs,ats⟩,ty,pos,after,g⟩::rest) st):AOps ro P nt ops Q (⟨dst,.call ⟨.value (.tmp d),xs,ats⟩,ty,pos,after,g⟩::rest) st:=k
theorem RGo.g_callv{l0:List Oper}{acc:List Eff}{d:Nat}{xs:Array Operand}{ats:Array TypeId}{st:St}{g:Option (Nat×Bool)}(k:RGo P nt ops l0 Q (⟨dst,.call ⟨.value (.tmp d),xs,ats⟩,ty,pos,after,g⟩::rest) acc st):RGo P nt ops l0 Q (⟨dst,.call ⟨.value (.tmp d),xs,ats⟩,ty,pos,after,g⟩::rest) acc st:=k
theorem AOps.g_callf{f:FuncId}{xs:Array Operand}{ats:Array TypeId}{st:St}{g:Option (Nat×Bool)}(k:AOps ro P nt ops Q (⟨dst,.call ⟨.value (.func f),xs,ats⟩,ty,pos,after,g⟩::rest) st):AOps ro P nt ops Q (⟨dst,.call ⟨.value (.func f),xs,ats⟩,ty,pos,after,g⟩::rest) st:=k
theorem RGo.g_callf{l0:List Oper}{acc:List Eff}{f:FuncId}{xs:Array Operand}{ats:Array TypeId}{st:St}{g:Option (Nat×Bool)}(k:RGo P nt ops l0 Q (⟨dst,.call ⟨.value (.func f),xs,ats⟩,ty,pos,after,g⟩::rest) acc st):RGo P nt ops l0 Q (⟨dst,.call ⟨.value (.func f),xs,ats⟩,ty,pos,after,g⟩::rest) acc st:=k
end
section
variable {P:Program}{nt:Nat}{ops:Array Oper}{Q:Exit->St->Prop}{l rest:List Oper}{acc:List Eff}{st:St}{op:Op}{ty:TypeId}{pos:String}{after:Array Edge}{dst:Option Tmp}
theorem AOps.gN(k:AOps ro P nt ops Q (⟨dst,op,ty,pos,after,none⟩::rest) st):AOps ro P nt ops Q (⟨dst,op,ty,pos,after,none⟩::rest) st:=k
theorem RGo.gN(k:RGo P nt ops l Q (⟨dst,op,ty,pos,after,none⟩::rest) acc st):RGo P nt ops l Q (⟨dst,op,ty,pos,after,none⟩::rest) acc st:=k
end
theorem BJ{P:Program}{nt:Nat}{Q:Exit->St->Prop}{c:Code}{st:St}{β:Type}(inv:β->St)(R:β->Prop)(μ:β->Nat)(b0:β)(hR:R b0)(round:∀b,R b->AWP ro P nt c (andThen (λst'=>∃b',R b' /\μ b'<μ b/\st'.Le (inv b')) Q) (inv b))(h0:st.Le (inv b0):=by exact⟨by exact Lk.f,by exact Sub.f⟩):AWP ro P nt (.loop c) Q st:=CG inv R μ b0 hR h0 round
theorem No{P:Program}{nt:Nat}{Q:Exit->St->Prop}{c:Code}{st:St}(T:List (Nat×AV))(S:List AC)(k:AWP ro P nt c Q ⟨T,S⟩)(h:st.Le ⟨T,S⟩:=by exact⟨by exact Lk.f,by exact Sub.f⟩):AWP ro P nt c Q st:=AWP.weak h k
theorem Af{β:Type}{R:β->Prop}{μ:β->Nat}{m:Nat}{inv:β->St}{st:St}(b':β)(hR:R b')(hμ:μ b'<m:=by omega)(h0:st.Le (inv b'):=by exact⟨by exact Lk.f,by exact Sub.f⟩):∃b',R b' /\μ b'<m/\st.Le (inv b'):=⟨b',hR,hμ,h0⟩
theorem BZ{P:Program}{nt:Nat}{Q:Exit->St->Prop}{c:Code}{st:St}{β0 β1:Type}(inv:β0->β1->St)(R:β0->β1->Prop)(μ:β0->β1->Nat)(c0:β0)(c1:β1)(hR:R c0 c1)(round:∀b0 b1,R b0 b1->AWP ro P nt c (andThen (λst'=>∃b0' b1',R b0' b1' /\μ b0' b1'<μ b0 b1/\st'.Le (inv b0' b1')) Q) (inv b0 b1))(h0:st.Le (inv c0 c1):=by exact⟨by exact Lk.f,by exact Sub.f⟩):AWP ro P nt (.loop c) Q st:=
 CG (β:=β0×β1) (λb=>inv b.1 b.2) (λb=>R b.1 b.2) (λb=>μ b.1 b.2) (c0,c1) hR h0 λb hb=>(round b.1 b.2 hb).mono λe st' h=>by
  cases e with
  |normal=>obtain⟨b0',b1',h1,h2,h3⟩:=h;exact⟨(b0',b1'),h1,h2,h3⟩
  |_=>exact h
theorem A8{β0 β1:Type}{R:β0->β1->Prop}{μ:β0->β1->Nat}{m:Nat}{inv:β0->β1->St}{st:St}(b0':β0)(b1':β1)(hR:R b0' b1')(hμ:μ b0' b1'<m:=by omega)(h0:st.Le (inv b0' b1'):=by exact⟨by exact Lk.f,by exact Sub.f⟩):∃b0' b1',R b0' b1' /\μ b0' b1'<m/\st.Le (inv b0' b1'):=⟨b0',b1',hR,hμ,h0⟩
theorem Dd{P:Program}{nt:Nat}{Q:Exit->St->Prop}{c:Code}{st:St}{β0 β1 β2:Type}(inv:β0->β1->β2->St)(R:β0->β1->β2->Prop)(μ:β0->β1->β2->Nat)(c0:β0)(c1:β1)(c2:β2)(hR:R c0 c1 c2)(round:∀b0 b1 b2,R b0 b1 b2->AWP ro P nt c (andThen (λst'=>∃b0' b1' b2',R b0' b1' b2' /\μ b0' b1' b2'<μ b0 b1 b2/\st'.Le (inv b0' b1' b2')) Q) (inv b0 b1 b2))(h0:st.Le (inv c0 c1 c2):=by exact⟨by exact Lk.f,by exact Sub.f⟩):AWP ro P nt (.loop c) Q st:=
 CG (β:=β0×β1×β2) (λb=>inv b.1 b.2.1 b.2.2) (λb=>R b.1 b.2.1 b.2.2) (λb=>μ b.1 b.2.1 b.2.2) (c0,c1,c2) hR h0 λb hb=>(round b.1 b.2.1 b.2.2 hb).mono λe st' h=>by
  cases e with
  |normal=>obtain⟨b0',b1',b2',h1,h2,h3⟩:=h;exact⟨(b0',b1',b2'),h1,h2,h3⟩
  |_=>exact h
theorem CK{β0 β1 β2:Type}{R:β0->β1->β2->Prop}{μ:β0->β1->β2->Nat}{m:Nat}{inv:β0->β1->β2->St}{st:St}(b0':β0)(b1':β1)(b2':β2)(hR:R b0' b1' b2')(hμ:μ b0' b1' b2'<m:=by omega)(h0:st.Le (inv b0' b1' b2'):=by exact⟨by exact Lk.f,by exact Sub.f⟩):∃b0' b1' b2',R b0' b1' b2' /\μ b0' b1' b2'<m/\st.Le (inv b0' b1' b2'):=⟨b0',b1',b2',hR,hμ,h0⟩
theorem FU{P:Program}{nt:Nat}{Q:Exit->St->Prop}{c:Code}{st:St}{β0 β1 β2 β3:Type}(inv:β0->β1->β2->β3->St)(R:β0->β1->β2->β3->Prop)(μ:β0->β1->β2->β3->Nat)(c0:β0)(c1:β1)(c2:β2)(c3:β3)(hR:R c0 c1 c2 c3)(round:∀b0 b1 b2 b3,R b0 b1 b2 b3->AWP ro P nt c (andThen (λst'=>∃b0' b1' b2' b3',R b0' b1' b2' b3' /\μ b0' b1' b2' b3'<μ b0 b1 b2 b3/\st'.Le (inv b0' b1' b2' b3')) Q) (inv b0 b1 b2 b3))(h0:st.Le (inv c0 c1 c2 c3):=by exact⟨by exact Lk.f,by exact Sub.f⟩):AWP ro P nt (.loop c) Q st:=
 CG (β:=β0×β1×β2×β3) (λb=>inv b.1 b.2.1 b.2.2.1 b.2.2.2) (λb=>R b.1 b.2.1 b.2.2.1 b.2.2.2) (λb=>μ b.1 b.2.1 b.2.2.1 b.2.2.2) (c0,c1,c2,c3) hR h0 λb hb=>(round b.1 b.2.1 b.2.2.1 b.2.2.2 hb).mono λe st' h=>by
  cases e with
  |normal=>obtain⟨b0',b1',b2',b3',h1,h2,h3⟩:=h;exact⟨(b0',b1',b2',b3'),h1,h2,h3⟩
  |_=>exact h
theorem DU{β0 β1 β2 β3:Type}{R:β0->β1->β2->β3->Prop}{μ:β0->β1->β2->β3->Nat}{m:Nat}{inv:β0->β1->β2->β3->St}{st:St}(b0':β0)(b1':β1)(b2':β2)(b3':β3)(hR:R b0' b1' b2' b3')(hμ:μ b0' b1' b2' b3'<m:=by omega)(h0:st.Le (inv b0' b1' b2' b3'):=by exact⟨by exact Lk.f,by exact Sub.f⟩):∃b0' b1' b2' b3',R b0' b1' b2' b3' /\μ b0' b1' b2' b3'<m/\st.Le (inv b0' b1' b2' b3'):=⟨b0',b1',b2',b3',hR,hμ,h0⟩
theorem Nn{P:Program}{nt:Nat}{Q:Exit->St->Prop}{c:Code}{st:St}{β0 β1 β2 β3 β4:Type}(inv:β0->β1->β2->β3->β4->St)(R:β0->β1->β2->β3->β4->Prop)(μ:β0->β1->β2->β3->β4->Nat)(c0:β0)(c1:β1)(c2:β2)(c3:β3)(c4:β4)(hR:R c0 c1 c2 c3 c4)(round:∀b0 b1 b2 b3 b4,R b0 b1 b2 b3 b4->AWP ro P nt c (andThen (λst'=>∃b0' b1' b2' b3' b4',R b0' b1' b2' b3' b4' /\μ b0' b1' b2' b3' b4'<μ b0 b1 b2 b3 b4/\st'.Le (inv b0' b1' b2' b3' b4')) Q) (inv b0 b1 b2 b3 b4))(h0:st.Le (inv c0 c1 c2 c3 c4):=by exact⟨by exact Lk.f,by exact Sub.f⟩):AWP ro P nt (.loop c) Q st:=
 CG (β:=β0×β1×β2×β3×β4) (λb=>inv b.1 b.2.1 b.2.2.1 b.2.2.2.1 b.2.2.2.2) (λb=>R b.1 b.2.1 b.2.2.1 b.2.2.2.1 b.2.2.2.2) (λb=>μ b.1 b.2.1 b.2.2.1 b.2.2.2.1 b.2.2.2.2) (c0,c1,c2,c3,c4) hR h0 λb hb=>(round b.1 b.2.1 b.2.2.1 b.2.2.2.1 b.2.2.2.2 hb).mono λe st' h=>by
  cases e with
  |normal=>obtain⟨b0',b1',b2',b3',b4',h1,h2,h3⟩:=h;exact⟨(b0',b1',b2',b3',b4'),h1,h2,h3⟩
  |_=>exact h
theorem H0{β0 β1 β2 β3 β4:Type}{R:β0->β1->β2->β3->β4->Prop}{μ:β0->β1->β2->β3->β4->Nat}{m:Nat}{inv:β0->β1->β2->β3->β4->St}{st:St}(b0':β0)(b1':β1)(b2':β2)(b3':β3)(b4':β4)(hR:R b0' b1' b2' b3' b4')(hμ:μ b0' b1' b2' b3' b4'<m:=by omega)(h0:st.Le (inv b0' b1' b2' b3' b4'):=by exact⟨by exact Lk.f,by exact Sub.f⟩):∃b0' b1' b2' b3' b4',R b0' b1' b2' b3' b4' /\μ b0' b1' b2' b3' b4'<m/\st.Le (inv b0' b1' b2' b3' b4'):=⟨b0',b1',b2',b3',b4',hR,hμ,h0⟩
theorem V6{P:Program}{nt:Nat}{Q:Exit->St->Prop}{c:Code}{st:St}{β0 β1 β2 β3 β4 β5:Type}(inv:β0->β1->β2->β3->β4->β5->St)(R:β0->β1->β2->β3->β4->β5->Prop)(μ:β0->β1->β2->β3->β4->β5->Nat)(c0:β0)(c1:β1)(c2:β2)(c3:β3)(c4:β4)(c5:β5)(hR:R c0 c1 c2 c3 c4 c5)(round:∀b0 b1 b2 b3 b4 b5,R b0 b1 b2 b3 b4 b5->AWP ro P nt c (andThen (λst'=>∃b0' b1' b2' b3' b4' b5',R b0' b1' b2' b3' b4' b5' /\μ b0' b1' b2' b3' b4' b5'<μ b0 b1 b2 b3 b4 b5/\st'.Le (inv b0' b1' b2' b3' b4' b5')) Q) (inv b0 b1 b2 b3 b4 b5))(h0:st.Le (inv c0 c1 c2 c3 c4 c5):=by exact⟨by exact Lk.f,by exact Sub.f⟩):AWP ro P nt (.loop c) Q st:=
 CG (β:=β0×β1×β2×β3×β4×β5) (λb=>inv b.1 b.2.1 b.2.2.1 b.2.2.2.1 b.2.2.2.2.1 b.2.2.2.2.2) (λb=>R b.1 b.2.1 b.2.2.1 b.2.2.2.1 b.2.2.2.2.1 b.2.2.2.2.2) (λb=>μ b.1 b.2.1 b.2.2.1 b.2.2.2.1 b.2.2.2.2.1 b.2.2.2.2.2) (c0,c1,c2,c3,c4,c5) hR h0 λb hb=>(round b.1 b.2.1 b.2.2.1 b.2.2.2.1 b.2.2.2.2.1 b.2.2.2.2.2 hb).mono λe st' h=>by
  cases e with
  |normal=>obtain⟨b0',b1',b2',b3',b4',b5',h1,h2,h3⟩:=h;exact⟨(b0',b1',b2',b3',b4',b5'),h1,h2,h3⟩
  |_=>exact h
theorem KV{β0 β1 β2 β3 β4 β5:Type}{R:β0->β1->β2->β3->β4->β5->Prop}{μ:β0->β1->β2->β3->β4->β5->Nat}{m:Nat}{inv:β0->β1->β2->β3->β4->β5->St}{st:St}(b0':β0)(b1':β1)(b2':β2)(b3':β3)(b4':β4)(b5':β5)(hR:R b0' b1' b2' b3' b4' b5')(hμ:μ b0' b1' b2' b3' b4' b5'<m:=by omega)(h0:st.Le (inv b0' b1' b2' b3' b4' b5'):=by exact⟨by exact Lk.f,by exact Sub.f⟩):∃b0' b1' b2' b3' b4' b5',R b0' b1' b2' b3' b4' b5' /\μ b0' b1' b2' b3' b4' b5'<m/\st.Le (inv b0' b1' b2' b3' b4' b5'):=⟨b0',b1',b2',b3',b4',b5',hR,hμ,h0⟩
theorem V5{P:Program}{nt:Nat}{Q:Exit->St->Prop}{c:Code}{st:St}{β0 β1 β2 β3 β4 β5 β6:Type}(inv:β0->β1->β2->β3->β4->β5->β6->St)(R:β0->β1->β2->β3->β4->β5->β6->Prop)(μ:β0->β1->β2->β3->β4->β5->β6->Nat)(c0:β0)(c1:β1)(c2:β2)(c3:β3)(c4:β4)(c5:β5)(c6:β6)(hR:R c0 c1 c2 c3 c4 c5 c6)(round:∀b0 b1 b2 b3 b4 b5 b6,R b0 b1 b2 b3 b4 b5 b6->AWP ro P nt c (andThen (λst'=>∃b0' b1' b2' b3' b4' b5' b6',R b0' b1' b2' b3' b4' b5' b6' /\μ b0' b1' b2' b3' b4' b5' b6'<μ b0 b1 b2 b3 b4 b5 b6/\st'.Le (inv b0' b1' b2' b3' b4' b5' b6')) Q) (inv b0 b1 b2 b3 b4 b5 b6))(h0:st.Le (inv c0 c1 c2 c3 c4 c5 c6):=by exact⟨by exact Lk.f,by exact Sub.f⟩):AWP ro P nt (.loop c) Q st:=
 CG (β:=β0×β1×β2×β3×β4×β5×β6) (λb=>inv b.1 b.2.1 b.2.2.1 b.2.2.2.1 b.2.2.2.2.1 b.2.2.2.2.2.1 b.2.2.2.2.2.2) (λb=>R b.1 b.2.1 b.2.2.1 b.2.2.2.1 b.2.2.2.2.1 b.2.2.2.2.2.1 b.2.2.2.2.2.2) (λb=>μ b.1 b.2.1 b.2.2.1 b.2.2.2.1 b.2.2.2.2.1 b.2.2.2.2.2.1 b.2.2.2.2.2.2) (c0,c1,c2,c3,c4,c5,c6) hR h0 λb hb=>(round b.1 b.2.1 b.2.2.1 b.2.2.2.1 b.2.2.2.2.1 b.2.2.2.2.2.1 b.2.2.2.2.2.2 hb).mono λe st' h=>by
  cases e with
  |normal=>obtain⟨b0',b1',b2',b3',b4',b5',b6',h1,h2,h3⟩:=h;exact⟨(b0',b1',b2',b3',b4',b5',b6'),h1,h2,h3⟩
  |_=>exact h
theorem OU{β0 β1 β2 β3 β4 β5 β6:Type}{R:β0->β1->β2->β3->β4->β5->β6->Prop}{μ:β0->β1->β2->β3->β4->β5->β6->Nat}{m:Nat}{inv:β0->β1->β2->β3->β4->β5->β6->St}{st:St}(b0':β0)(b1':β1)(b2':β2)(b3':β3)(b4':β4)(b5':β5)(b6':β6)(hR:R b0' b1' b2' b3' b4' b5' b6')(hμ:μ b0' b1' b2' b3' b4' b5' b6'<m:=by omega)(h0:st.Le (inv b0' b1' b2' b3' b4' b5' b6'):=by exact⟨by exact Lk.f,by exact Sub.f⟩):∃b0' b1' b2' b3' b4' b5' b6',R b0' b1' b2' b3' b4' b5' b6' /\μ b0' b1' b2' b3' b4' b5' b6'<m/\st.Le (inv b0' b1' b2' b3' b4' b5' b6'):=⟨b0',b1',b2',b3',b4',b5',b6',hR,hμ,h0⟩
theorem AI{P:Program}{t:Nat}{Sf:List AC}{st:St}{a r:AV}(e:a=r)(h:Ab st.T t=some a:=by rfl)(ha:ntup a=true:=by rfl)(hS:Sf.Sublist st.S:=by exact Sub.f):Ends P [.tmp t] Sf (λr' S'=>r'=r/\S'=[]) st:=BE h ha hS ⟨e,rfl⟩
theorem RQ{P:Program}{t X:Nat}{Sf:List AC}{st:St}{a r:AV}{o o':AO}(e:a=r)(e':o=o')(h:Ab st.T t=some a:=by rfl)(ha:ntup a=true:=by rfl)(hS:((X,o)::Sf).Sublist st.S:=by exact Sub.f):Ends P [.tmp t] Sf (λr' S'=>r'=r/\S'=[(X,o')]) st:=by subst e e';exact Gc (S':=[(X,o)]) h ha hS ⟨rfl,rfl⟩
theorem LZ(S:List AC):∀as:List AV,CVs S as as S
 |[]=>.nil
 |_::as=>.cons (.cell .same) (LZ S as)
theorem FT{P:Program}{res:List ResultVar}{Sf:List AC}{st:St}{rs:List AV}{r:AV}(e:KJ rs=r)(h:ResVs P st res rs:=by(repeat (first|exact .nil|refine .cons (.tmp (by rfl)) (by rfl) ?_|refine .cons (.cell (by rfl) (by exact At.f) TAg.h TSize.h (by exact rfl) (by exact rfl)) (by rfl) ?_)))(hS:Sf.Sublist st.S:=by exact Sub.f):Ends P res Sf (λr' S'=>r'=r/\S'=[]) st:=⟨rs,rs,st.S,[],h,LZ _ _,hS,e,rfl⟩
theorem PF{P:Program}{X:Nat}{o o':AO}{res:List ResultVar}{Sf:List AC}{st:St}{rs:List AV}{r:AV}(e:KJ rs=r)(e':o=o')(h:ResVs P st res rs:=by(repeat (first|exact .nil|refine .cons (.tmp (by rfl)) (by rfl) ?_|refine .cons (.cell (by rfl) (by exact At.f) TAg.h TSize.h (by exact rfl) (by exact rfl)) (by rfl) ?_)))(hS:((X,o)::Sf).Sublist st.S:=by exact Sub.f):Ends P res Sf (λr' S'=>r'=r/\S'=[(X,o')]) st:=⟨rs,rs,st.S,[(X,o)],h,LZ _ _,hS,e,by rw[e']⟩
theorem AOps.met{P:Program}{nt:Nat}{ops:Array Oper}{Q:Exit->St->Prop}{rest:List Oper}{st:St}{op:Op}{ty:TypeId}{pos:String}{after:Array Edge}{dst:Option Tmp}{g:Nat}{b b':Bool}{t:Nat}(k:AOps ro P nt ops Q (⟨dst,op,ty,pos,after,none⟩::rest) st)(ht:(ops[g]?).bind (·.dst)=some t:=by rfl)(hv:Ab st.T t=some (.prim (.bool b')):=by rfl)(hb:b'=b:=by first|rfl|assumption):AOps ro P nt ops Q (⟨dst,op,ty,pos,after,some (g,b)⟩::rest) st:=by
 intro m0 a w hr;have h:=k m0 a w hr
 have hy:yielded ops a.tmps g=some b:=by
  obtain⟨m,N,Z,h1,h2,h3,h4,h5,h6⟩:=hr;obtain⟨u,hu1,hu2⟩:=h6 t _ hv;obtain⟨⟨e,_⟩,_⟩:=hu2;injection e with e
  subst e hb;simp[yielded,ht,hu1]
 unfold wpListIn at h⊢;rw[if_pos (by simp[Region.wanted])]at h;rw[if_pos (by simp[Region.wanted,hy])];exact h
structure All(p:Nat->Prop):Prop where
 i::
 h:∀X,p X
structure AllY(p:Nat->Prop):Prop where
 i::
 h:∀X,p X
section
variable {P:Program}{nt:Nat}{ops:Array Oper}{Q:Exit->St->Prop}{rest:List Oper}{T:List (Nat×AV)}{S:List AC}{xs:List (Operand×AV)}{rS wS:List (Nat×AC)}{v:AV}{op:Op}{ty:TypeId}{pos:String}{after:Array Edge}{dst:Option Tmp}{t t2 t' te:TypeId}{x y z:Operand}{g:Option (Nat×Bool)}{st:St}{c:Code}{l ls:List AV}{sz X p q:Nat}
theorem Mz{xs:Nat->List (Operand×AV)}{rS wS:Nat->List (Nat×AC)}{v:Nat->AV}(h:∀X,Stp none P ⟨dst,op,ty,pos,after,none⟩ T ((X,.gone)::S) (xs X) (rS X) (v X) (wS X):=by(intro X;first|(apply FO;exact W.allocN .here (by first|exact .inl rfl|exact .inr rfl) (by first|(dsimp only[zAV,List.map];try exact rfl)|exact rfl) (by exact rfl))|(apply Stp.g_box;exact W.box rfl .here rfl)))(hd:AU dst nt=true:=by rfl):(All λX=>AOps ro P nt ops Q rest ⟨AW T dst (v X),AX ((X,.gone)::S) (wS X)⟩)->AOps ro P nt ops Q (⟨dst,op,ty,pos,after,none⟩::rest) ⟨T,S⟩:=λk=>IL k.h h hd
theorem S4{m by_:Nat}[TRo P t te sz by_](hx:Rd none T x (.sl X 0 m):=by rfl)(hy:Rd none T y (.lst false t' sz ls):=by rfl)(hSp:At S p (X,.row te sz l):=by exact At.f)(hn:m=l.length:=by first|rfl|assumption|omega|(simp;omega)|simp[*])(hb:(m+ls.length)*by_<=140737488355328:=by first|assumption|exact Vw (by first|assumption|omega|(simp;omega)) (by decide)|omega|(simp;omega))(hby:0<by_:=by decide)(hd:AU dst nt=true:=by rfl):(AllY λY=>AOps ro P nt ops Q rest ⟨AW T dst (.sl Y 0 (m+ls.length)),S.set p (Y,.row te sz (l++ls))⟩)->AOps ro P nt ops Q (⟨dst,.call ⟨.builtin .append,#[x,y],#[t,t]⟩,ty,pos,after,none⟩::rest) ⟨T,S⟩:=λk=>AOps.goA k.h hx hy hSp hn hb hby hd
end
section
variable {P:Program}{nt:Nat}{ops:Array Oper}{Q:Exit->St->Prop}{rest:List Oper}{T:List (Nat×AV)}{S:List AC}{xs:List (Operand×AV)}{rS wS:List (Nat×AC)}{v:AV}{op:Op}{ty:TypeId}{pos:String}{after:Array Edge}{dst:Option Tmp}{t t2 t' te:TypeId}{x y z:Operand}{g:Option (Nat×Bool)}{st:St}{c:Code}{l ls:List AV}{sz X p q:Nat}
theorem AOps.go_(h:Stp none P ⟨dst,op,ty,pos,after,none⟩ T S xs rS v []:=by exact EZ)(hd:AU dst nt=true:=by rfl):(AOps ro P nt ops Q rest ⟨AW T dst v,S⟩)->AOps ro P nt ops Q (⟨dst,op,ty,pos,after,none⟩::rest) ⟨T,S⟩:=λk=>AOps.go (k:=k) (h:=h) (hd:=hd)
theorem AOps.goS_(h:Stp none P ⟨dst,op,ty,pos,after,none⟩ T S xs rS v wS:=by exact Hm)(hd:AU dst nt=true:=by rfl):(AOps ro P nt ops Q rest ⟨AW T dst v,AX S wS⟩)->AOps ro P nt ops Q (⟨dst,op,ty,pos,after,none⟩::rest) ⟨T,S⟩:=λk=>AOps.goS (k:=k) (h:=h) (hd:=hd)
theorem S3{P:Program}{nt:Nat}{ops:Array Oper}{Q:Exit->St->Prop}{rest:List Oper}{st:St}{op:Op}{ty:TypeId}{pos:String}{after:Array Edge}{dst:Option Tmp}{g:Nat}{b b':Bool}{t:Nat}(ht:(ops[g]?).bind (·.dst)=some t:=by rfl)(hv:Ab st.T t=some (.prim (.bool b')):=by rfl)(hb:b'=b:=by first|rfl|assumption):(AOps ro P nt ops Q (⟨dst,op,ty,pos,after,none⟩::rest) st)->AOps ro P nt ops Q (⟨dst,op,ty,pos,after,some (g,b)⟩::rest) st:=λk=>AOps.met (k:=k) (ht:=ht) (hv:=hv) (hb:=hb)
theorem AOps.goN_{g:Nat}{b b':Bool}{t:Nat}(ht:(ops[g]?).bind (·.dst)=some t:=by rfl)(hv:Ab T t=some (.prim (.bool b')):=by rfl)(hb:b'= !b:=by first|rfl|assumption|(simp only[Bool.not_true,Bool.not_false];assumption))(hd:AU dst nt=true:=by rfl):(AOps ro P nt ops Q rest ⟨AW T dst .dead,S⟩)->AOps ro P nt ops Q (⟨dst,op,ty,pos,after,some (g,b)⟩::rest) ⟨T,S⟩:=λk=>AOps.goN (k:=k) (ht:=ht) (hv:=hv) (hb:=hb) (hd:=hd)
theorem AOps.goQ1_{g:Nat}{b b':Bool}{t:Nat}(ht:(ops[g]?).bind (·.dst)=some t:=by rfl)(hv:Ab T t=some (.prim (.bool b')):=by rfl)(h:Stp (some [b'==b]) P ⟨dst,op,ty,pos,after,some (g,b)⟩ T S xs rS v []:=by exact Nl)(hd:AU dst nt=true:=by rfl)(hos:CX xs=true:=by exact rfl):(AOps ro P nt ops Q rest ⟨AW T dst (.opt (b'==b) v),S⟩)->AOps ro P nt ops Q (⟨dst,op,ty,pos,after,some (g,b)⟩::rest) ⟨T,S⟩:=λk=>AOps.goQ1 (k:=k) (ht:=ht) (hv:=hv) (h:=h) (hd:=hd) (hos:=hos)
theorem AOps.goQ2_{c1:Bool}{g:Nat}{b b':Bool}{t:Nat}(ht:(ops[g]?).bind (·.dst)=some t:=by rfl)(hv:Ab T t=some (.opt c1 (.prim (.bool b'))):=by rfl)(h:Stp (some [c1,b'==b]) P ⟨dst,op,ty,pos,after,some (g,b)⟩ T S xs rS v []:=by exact Nk)(hd:AU dst nt=true:=by rfl)(hos:CX xs=true:=by exact rfl):(AOps ro P nt ops Q rest ⟨AW T dst (.opt c1 (.opt (b'==b) v)),S⟩)->AOps ro P nt ops Q (⟨dst,op,ty,pos,after,some (g,b)⟩::rest) ⟨T,S⟩:=λk=>AOps.goQ2 (k:=k) (ht:=ht) (hv:=hv) (h:=h) (hd:=hd) (hos:=hos)
theorem AOps.goQ3_{c1 c2:Bool}{g:Nat}{b b':Bool}{t:Nat}(ht:(ops[g]?).bind (·.dst)=some t:=by rfl)(hv:Ab T t=some (.opt c1 (.opt c2 (.prim (.bool b')))):=by rfl)(h:Stp (some [c1,c2,b'==b]) P ⟨dst,op,ty,pos,after,some (g,b)⟩ T S xs rS v []:=by exact Nj)(hd:AU dst nt=true:=by rfl)(hos:CX xs=true:=by exact rfl):(AOps ro P nt ops Q rest ⟨AW T dst (.opt c1 (.opt c2 (.opt (b'==b) v))),S⟩)->AOps ro P nt ops Q (⟨dst,op,ty,pos,after,some (g,b)⟩::rest) ⟨T,S⟩:=λk=>AOps.goQ3 (k:=k) (ht:=ht) (hv:=hv) (h:=h) (hd:=hd) (hos:=hos)
end
section
variable {P:Program}{nt:Nat}{ops:Array Oper}{Q:Exit->St->Prop}{rest:List Oper}{T:List (Nat×AV)}{S:List AC}{xs:List (Operand×AV)}{rS wS:List (Nat×AC)}{v:AV}{op:Op}{ty:TypeId}{pos:String}{after:Array Edge}{dst:Option Tmp}{t t2 t' te:TypeId}{x y z:Operand}{st:St}{c:Code}{l:List Oper}{acc:List Eff}
theorem RGo.go_{g:Option (Nat×Bool)}{ts:List Nat}(h:Stp none P ⟨dst,op,ty,pos,after,g⟩ T S xs rS v []:=by exact EZ)(hd:AU dst nt=true:=by rfl)(hg:Grd ops T g ts:=by first|exact .none|exact .met rfl rfl (by first|rfl|assumption)):(RGo P nt ops l Q rest (acc++[⟨⟨dst,op,ty,pos,after,g⟩,ts++Au xs,rS.map (·.1),v,[]⟩]) ⟨AW T dst v,S⟩)->RGo P nt ops l Q (⟨dst,op,ty,pos,after,g⟩::rest) acc ⟨T,S⟩:=λk=>RGo.go (k:=k) (h:=h) (hd:=hd) (hg:=hg)
theorem RGo.goS_{g:Option (Nat×Bool)}{ts:List Nat}(h:Stp none P ⟨dst,op,ty,pos,after,g⟩ T S xs rS v wS:=by exact Hm)(hd:AU dst nt=true:=by rfl)(hg:Grd ops T g ts:=by first|exact .none|exact .met rfl rfl (by first|rfl|assumption)):(RGo P nt ops l Q rest (acc++[⟨⟨dst,op,ty,pos,after,g⟩,ts++Au xs,rS.map (·.1),v,wS⟩]) ⟨AW T dst v,AX S wS⟩)->RGo P nt ops l Q (⟨dst,op,ty,pos,after,g⟩::rest) acc ⟨T,S⟩:=λk=>RGo.goS (k:=k) (h:=h) (hd:=hd) (hg:=hg)
theorem RGo.goN_{g:Nat}{b b':Bool}{t:Nat}(ht:(ops[g]?).bind (·.dst)=some t:=by rfl)(hv:Ab T t=some (.prim (.bool b')):=by rfl)(hb:b'= !b:=by first|rfl|assumption|(simp only[Bool.not_true,Bool.not_false];assumption))(hd:AU dst nt=true:=by rfl):(RGo P nt ops l Q rest (acc++[⟨⟨dst,op,ty,pos,after,some (g,b)⟩,[t],[],.dead,[]⟩]) ⟨AW T dst .dead,S⟩)->RGo P nt ops l Q (⟨dst,op,ty,pos,after,some (g,b)⟩::rest) acc ⟨T,S⟩:=λk=>RGo.goN (k:=k) (ht:=ht) (hv:=hv) (hb:=hb) (hd:=hd)
theorem RGo.goQ1_{g:Nat}{b b':Bool}{t:Nat}(ht:(ops[g]?).bind (·.dst)=some t:=by rfl)(hv:Ab T t=some (.prim (.bool b')):=by rfl)(h:Stp (some [b'==b]) P ⟨dst,op,ty,pos,after,some (g,b)⟩ T S xs rS v []:=by exact Nl)(hd:AU dst nt=true:=by rfl)(hos:CX xs=true:=by exact rfl):(RGo P nt ops l Q rest (acc++[⟨⟨dst,op,ty,pos,after,some (g,b)⟩,t::Au xs,rS.map (·.1),(.opt (b'==b) v),[]⟩]) ⟨AW T dst (.opt (b'==b) v),S⟩)->RGo P nt ops l Q (⟨dst,op,ty,pos,after,some (g,b)⟩::rest) acc ⟨T,S⟩:=λk=>RGo.goQ1 (k:=k) (ht:=ht) (hv:=hv) (h:=h) (hd:=hd) (hos:=hos)
theorem RGo.goQ2_{c1:Bool}{g:Nat}{b b':Bool}{t:Nat}(ht:(ops[g]?).bind (·.dst)=some t:=by rfl)(hv:Ab T t=some (.opt c1 (.prim (.bool b'))):=by rfl)(h:Stp (some [c1,b'==b]) P ⟨dst,op,ty,pos,after,some (g,b)⟩ T S xs rS v []:=by exact Nk)(hd:AU dst nt=true:=by rfl)(hos:CX xs=true:=by exact rfl):(RGo P nt ops l Q rest (acc++[⟨⟨dst,op,ty,pos,after,some (g,b)⟩,t::Au xs,rS.map (·.1),(.opt c1 (.opt (b'==b) v)),[]⟩]) ⟨AW T dst (.opt c1 (.opt (b'==b) v)),S⟩)->RGo P nt ops l Q (⟨dst,op,ty,pos,after,some (g,b)⟩::rest) acc ⟨T,S⟩:=λk=>RGo.goQ2 (k:=k) (ht:=ht) (hv:=hv) (h:=h) (hd:=hd) (hos:=hos)
theorem RGo.goQ3_{c1 c2:Bool}{g:Nat}{b b':Bool}{t:Nat}(ht:(ops[g]?).bind (·.dst)=some t:=by rfl)(hv:Ab T t=some (.opt c1 (.opt c2 (.prim (.bool b')))):=by rfl)(h:Stp (some [c1,c2,b'==b]) P ⟨dst,op,ty,pos,after,some (g,b)⟩ T S xs rS v []:=by exact Nj)(hd:AU dst nt=true:=by rfl)(hos:CX xs=true:=by exact rfl):(RGo P nt ops l Q rest (acc++[⟨⟨dst,op,ty,pos,after,some (g,b)⟩,t::Au xs,rS.map (·.1),(.opt c1 (.opt c2 (.opt (b'==b) v))),[]⟩]) ⟨AW T dst (.opt c1 (.opt c2 (.opt (b'==b) v))),S⟩)->RGo P nt ops l Q (⟨dst,op,ty,pos,after,some (g,b)⟩::rest) acc ⟨T,S⟩:=λk=>RGo.goQ3 (k:=k) (ht:=ht) (hv:=hv) (h:=h) (hd:=hd) (hos:=hos)
theorem IH{g:Option (Nat×Bool)}{ts:List Nat}(h:Stp none P ⟨dst,op,ty,pos,after,g⟩ T S xs rS v wS:=by first|(apply FO;exact W.allocN (by exact At.f) (by first|exact .inl rfl|exact .inr rfl) (by first|(dsimp only[zAV,List.map];try exact rfl)|exact rfl) (by exact rfl))|(apply Stp.g_box;exact W.box rfl (by exact At.f) rfl))(hd:AU dst nt=true:=by rfl)(hg:Grd ops T g ts:=by first|exact .none|exact .met rfl rfl (by first|rfl|assumption)):(RGo P nt ops l Q rest (acc++[⟨⟨dst,op,ty,pos,after,g⟩,ts++Au xs,rS.map (·.1),v,wS⟩]) ⟨AW T dst v,AX S wS⟩)->RGo P nt ops l Q (⟨dst,op,ty,pos,after,g⟩::rest) acc ⟨T,S⟩:=λk=>V2 (k:=k) (h:=h) (hd:=hd) (hg:=hg)
end
section
variable {P:Program}{nt:Nat}{ops:Array Oper}{Q:Exit->St->Prop}{rest:List Oper}{T:List (Nat×AV)}{S:List AC}{xs:List (Operand×AV)}{rS wS:List (Nat×AC)}{v:AV}{op:Op}{ty:TypeId}{pos:String}{after:Array Edge}{dst:Option Tmp}{t t2 t' te:TypeId}{x y z:Operand}{st:St}{c:Code}{l ls:List AV}{sz X p q:Nat}
theorem PD{l0:List Oper}{acc:List Eff}{m by_ Y:Nat}[TRo P t te sz by_](hx:Rd none T x (.sl X 0 m):=by rfl)(hy:Rd none T y (.lst false t' sz ls):=by rfl)(hSq:At S q (Y,.gone):=by exact At.f)(hSp:At S p (X,.row te sz l):=by exact At.f)(hn:m=l.length:=by first|rfl|assumption|omega|(simp;omega)|simp[*])(hb:(m+ls.length)*by_<=140737488355328:=by first|assumption|exact Vw (by first|assumption|omega|(simp;omega)) (by decide)|omega|(simp;omega))(hqp:q≠p:=by decide)(hby:0<by_:=by decide)(hd:AU dst nt=true:=by rfl):(RGo P nt ops l0 Q rest (acc++[⟨⟨dst,.call ⟨.builtin .append,#[x,y],#[t,t]⟩,ty,pos,after,none⟩,Au [(x,.sl X 0 m),(y,.lst false t' sz ls)],[q,p],.sl Y 0 (m+ls.length),[(q,(X,.used)),(p,(Y,.row te sz (l++ls)))]⟩]) ⟨AW T dst (.sl Y 0 (m+ls.length)),AX S [(q,(X,.used)),(p,(Y,.row te sz (l++ls)))]⟩)->RGo P nt ops l0 Q (⟨dst,.call ⟨.builtin .append,#[x,y],#[t,t]⟩,ty,pos,after,none⟩::rest) acc ⟨T,S⟩:=λk=>RGo.goA (k:=k) (hx:=hx) (hy:=hy) (hSq:=hSq) (hSp:=hSp) (hn:=hn) (hb:=hb) (hqp:=hqp) (hby:=hby) (hd:=hd)
end
section
variable {P:Program}{nt:Nat}{ops:Array Oper}{Q:Exit->St->Prop}{rest:List Oper}{T:List (Nat×AV)}{S:List AC}{xs:List (Operand×AV)}{rS wS:List (Nat×AC)}{v:AV}{op:Op}{ty:TypeId}{pos:String}{after:Array Edge}{dst:Option Tmp}{t t2 t' te:TypeId}{x y z:Operand}{g:Option (Nat×Bool)}{st:St}{c:Code}{l:List Oper}{acc:List Eff}{B:Prop}{gd:Nat×Bool}
theorem AOps.jN(k:B->AOps ro P nt ops Q (⟨dst,op,ty,pos,after,none⟩::rest) st):B->AOps ro P nt ops Q (⟨dst,op,ty,pos,after,none⟩::rest) st:=k
theorem AOps.jQ(k:B->AOps ro P nt ops Q (⟨dst,op,ty,pos,after,some gd⟩::rest) st):B->AOps ro P nt ops Q (⟨dst,op,ty,pos,after,some gd⟩::rest) st:=k
theorem AOps.j_store(k:B->AOps ro P nt ops Q (⟨dst,.store t x y,ty,pos,after,g⟩::rest) st):B->AOps ro P nt ops Q (⟨dst,.store t x y,ty,pos,after,g⟩::rest) st:=k
theorem AOps.j_alloc(k:B->AOps ro P nt ops Q (⟨dst,.alloc t,ty,pos,after,g⟩::rest) st):B->AOps ro P nt ops Q (⟨dst,.alloc t,ty,pos,after,g⟩::rest) st:=k
theorem AOps.j_box(k:B->AOps ro P nt ops Q (⟨dst,.box t x,ty,pos,after,g⟩::rest) st):B->AOps ro P nt ops Q (⟨dst,.box t x,ty,pos,after,g⟩::rest) st:=k
theorem AOps.j_append(k:B->AOps ro P nt ops Q (⟨dst,.call ⟨.builtin .append,#[x,y],#[t,t]⟩,ty,pos,after,g⟩::rest) st):B->AOps ro P nt ops Q (⟨dst,.call ⟨.builtin .append,#[x,y],#[t,t]⟩,ty,pos,after,g⟩::rest) st:=k
theorem RGo.jN(k:B->RGo P nt ops l Q (⟨dst,op,ty,pos,after,none⟩::rest) acc st):B->RGo P nt ops l Q (⟨dst,op,ty,pos,after,none⟩::rest) acc st:=k
theorem RGo.jQ(k:B->RGo P nt ops l Q (⟨dst,op,ty,pos,after,some gd⟩::rest) acc st):B->RGo P nt ops l Q (⟨dst,op,ty,pos,after,some gd⟩::rest) acc st:=k
theorem RGo.j_store(k:B->RGo P nt ops l Q (⟨dst,.store t x y,ty,pos,after,g⟩::rest) acc st):B->RGo P nt ops l Q (⟨dst,.store t x y,ty,pos,after,g⟩::rest) acc st:=k
theorem RGo.j_alloc(k:B->RGo P nt ops l Q (⟨dst,.alloc t,ty,pos,after,g⟩::rest) acc st):B->RGo P nt ops l Q (⟨dst,.alloc t,ty,pos,after,g⟩::rest) acc st:=k
theorem RGo.j_box(k:B->RGo P nt ops l Q (⟨dst,.box t x,ty,pos,after,g⟩::rest) acc st):B->RGo P nt ops l Q (⟨dst,.box t x,ty,pos,after,g⟩::rest) acc st:=k
theorem RGo.j_append(k:B->RGo P nt ops l Q (⟨dst,.call ⟨.builtin .append,#[x,y],#[t,t]⟩,ty,pos,after,g⟩::rest) acc st):B->RGo P nt ops l Q (⟨dst,.call ⟨.builtin .append,#[x,y],#[t,t]⟩,ty,pos,after,g⟩::rest) acc st:=k
end
theorem WO_{A B:Prop}(h:B->A:=by first|(apply AOps.jN;first|(apply AOps.j_store;exact AOps.goS_)|(apply AOps.j_alloc;exact Mz)|(apply AOps.j_box;exact Mz)|(apply AOps.j_append;exact S4)|exact AOps.go_)|(apply AOps.jQ;first|exact S3|exact AOps.goN_|exact AOps.goQ1_|exact AOps.goQ2_|exact AOps.goQ3_)):B->A:=h
theorem WO{A B:Prop}(k:B)(h:B->A:=by exact WO_):A:=h k
theorem WF_{A B:Prop}(h:B->A:=by first|exact AWP.seq|exact AWP.skip|exact AWP.block|exact AWP.exit|exact CP|exact WE|exact Mn|exact WG|exact Tz rfl):B->A:=h
theorem WF{A B:Prop}(k:B)(h:B->A:=by exact WF_):A:=h k
theorem WN{A B:Prop}(k:B)(h:B->A:=by first|exact CP|exact WE|exact Mn|exact WG|exact Tz rfl):A:=h k
theorem WK{A B:Prop}(k:B)(h:B->A:=by first|exact WO_|exact AOps.nil|exact WF_|exact AWP.region):A:=h k
theorem RK{A B:Prop}(k:B)(h:B->A:=by first|(apply RGo.jN;first|(apply RGo.j_store;exact RGo.goS_)|(apply RGo.j_append;exact PD)|(apply RGo.j_alloc;exact IH)|(apply RGo.j_box;exact IH)|exact RGo.go_)|(apply RGo.jQ;first|(apply RGo.j_store;exact RGo.goS_)|(apply RGo.j_append;exact PD)|(apply RGo.j_alloc;exact IH)|(apply RGo.j_box;exact IH)|exact RGo.go_|exact RGo.goN_|exact RGo.goQ1_|exact RGo.goQ2_|exact RGo.goQ3_)):A:=h k
theorem RG{A B:Prop}(k:B)(h:B->A:=by(intro b;(repeat refine WF ?_);refine AWP.region ?_;exact b)):A:=h k
theorem RU{A B:Prop}(k:B)(h:B->A:=by(intro b;(repeat refine WF ?_);refine AWP.region_run (by kernel_rfl) (by kernel_rfl) ?_;exact b)):A:=h k
theorem Ai{p:Nat->Prop}(h:∀X,p X):All p:=⟨h⟩
theorem Ay{p:Nat->Prop}(h:∀X,p X):AllY p:=⟨h⟩
theorem NL{A B:Prop}(k:B)(h:B->A:=by(intro b;refine AOps.nil ?_;(repeat refine WN ?_);exact b)):A:=h k
theorem FL{A B:Prop}(k:B)(h:B->A:=by(intro b;(repeat first|refine AOps.nil ?_|refine WF ?_);exact b)):A:=h k
theorem RT{A B:Prop}(k:B)(h:B->A:=by(intro b;refine AWP.ret ?_;(repeat (first|refine XF ?_|refine Su ?_));refine WQ ?_;exact b)):A:=h k
end
section
set_option linter.defProp false
structure Hd(B:Prop):Prop where
 h:B
theorem KK{A B:Prop}(k:B)(h:Hd B->A:=by(intro b;(repeat refine WK ?_);exact b.h)):A:=h ⟨k⟩
theorem KO{A B:Prop}(k:B)(h:Hd B->A:=by(intro b;(repeat refine WO ?_);exact b.h)):A:=h ⟨k⟩
theorem KR{A B:Prop}(k:B)(h:Hd B->A:=by(intro b;(repeat refine RK ?_);exact b.h)):A:=h ⟨k⟩
theorem R1{A B:Prop}(k:B)(h:Hd B->A:=by(intro b;refine RG ?_;(repeat refine WO ?_);refine NL ?_;exact b.h)):A:=h ⟨k⟩
theorem Sp{P:Program}{f:FuncId}{fn:Func}{c:Code}{args:List AV}{S:List AC}{Q:AV->List AC->Prop}{res:List ResultVar}{nt:Nat}(hf:P.funcs[f]?=some fn)(h:∀Sf,AWP none P nt c (VE P res Sf Q) ⟨Ss 0 args,S++Sf⟩)(hb:fn.body=some c:=by rfl)(hfn:Kh P f=true:=by kernel_rfl)(hnt:fn.ntmps=nt:=by rfl)(hres:fn.results.toList=res:=by rfl)(hn:Nat.ble args.length nt=true:=by rfl):Spec P f args S Q:=Spec.of hf hb hfn hnt hres hn h
theorem nm.{u}{α:Sort u}(a:α):∃x,a=x:=⟨_,rfl⟩
def AF:=@_root_.decide_eq_true_eq
def AE:=@_root_.List.getElem?_eq_getElem
def AQ:=@_root_.decide_eq_false_iff_not
def AB:=@_root_.List.length_map
def AL:=@_root_.List.length_append
def AP:=@_root_.List.append_assoc
def XV:=@_root_.List.getElem?_eq_some_iff
def AG:=@_root_.List.getElem?_map
def AY:=@_root_.decide_eq_false
def Ae:=@_root_.decide_eq_true
def CS:=@_root_.List.mem_append
def BP:=@_root_.List.mem_singleton
def BO:=@_root_.List.mem_cons
def AK:=@_root_.List.getElem_mem
def Ah:=@_root_.List.length_take
def CD:=@_root_.List.drop_eq_getElem_cons
def Ao:=@_root_.List.mem_of_getElem?
def Bp:=@_root_.List.getD_eq_getElem?_getD
def BD:=@_root_.List.nil_append
def BF:=@_root_.List.cons_append
def Bh:=@_root_.List.length_drop
def Bm:=@_root_.List.length_cons
end
section
variable {ro:Option Nat}
open Go.RowKit
def Yld(P:Program)(y:Value)(xs:List (List AV))(J:Nat->List AC->Prop)(Jx:List AC->Prop):Prop:=
 ∃l,y= .func (.yield l) #[] #[]/\∀i vs,xs[i]?=some vs->∀Sl,J i Sl->∀(Si:List AC) (m:Mem) (N:Nat) (Z:Zs) (us:List Value),Z.map (·.1)=Si++Sl->Good m m N Z []->VTs m vs us []->
  ∃f tmps assign body,(Instr.yield l us.toArray).run P m.w= .ok (.round l f tmps assign body) m.w/\RoundIn (FW none) 0 P l f tmps assign body m.w λe w'=>
   ∃b Sl' m' N' Z',e= .returned (.bool b)/\m'.w=w' /\Z'.map (·.1)=Si++Sl' /\Good m m' N' Z' []/\(b=true->J (i+1) Sl')/\(b=false->Jx Sl')
def Itr(P:Program)(f:FuncId)(cap:List AV)(xs:List (List AV)):Prop:=
 Kh P f=true/\∀y J Jx,Yld P y xs J Jx->∀Sl,J 0 Sl->Spec P f (.prim y::cap) Sl λ_ S'=>J xs.length S' \/Jx S'
theorem Az{α β:Type}{f:α->β}:∀{Z:List α} {A B:List β},Z.map f=A++B->∃ZA ZB,Z=ZA++ZB/\ZA.map f=A/\ZB.map f=B
 |Z,[],B,h=>⟨[],Z,rfl,rfl,h⟩
 |[],a::A,B,h=>by simp at h
 |z::Z,a::A,B,h=>by
  simp only[List.map_cons,List.cons_append,List.cons.injEq]at h;obtain⟨ZA,ZB,e,h1,h2⟩:=Az h.2;exact⟨z::ZA,ZB,by simp[e],by simp[h.1,h1],h2⟩
section
variable {P:Program}{nt:Nat}{ops:Array Oper}{Q:Exit->St->Prop}{rest:List Oper}{T:List (Nat×AV)}{S Si Sl Sf:List AC}{y:Value}{xs:List (List AV)}{J:Nat->List AC->Prop}{Jx:List AC->Prop}
variable {dst:Option Tmp}{ty:TypeId}{pos:String}{after:Array Edge}{x:Operand}{ys:List (Operand×AV)}{ats:Array TypeId}{i:Nat}
theorem AOps.yield(hY:Yld P y xs J Jx)(hJ:J i Sl)(hi:xs[i]?=some (ys.map (·.2)))(hx:ev T x=some (.prim y))(has:Evs T ys)(ht:Am ys=true)(hd:AU dst nt=true)
  (kt:∀Sl',J (i+1) Sl' ->AOps ro P nt ops Q rest ⟨AW T dst (.prim (.bool true)),Si++(Sl'++Sf)⟩) (kf:∀Sl',Jx Sl' ->AOps ro P nt ops Q rest ⟨AW T dst (.prim (.bool false)),Si++(Sl'++Sf)⟩):
  AOps ro P nt ops Q (⟨dst,.call ⟨.value x,(ys.map (·.1)).toArray,ats⟩,ty,pos,after,none⟩::rest) ⟨T,Si++(Sl++Sf)⟩:=by
 rintro m0 a w ⟨m,N,Z,rfl,h2,h3,h4⟩;refine wpListIn_plain rfl λK hK=>?_
 obtain⟨l,rfl,hY⟩:=hY;have hyv:=(h4.ev hx).prim;obtain⟨Zi,Zr,rfl,hzi,hzr⟩:=Az (A:=Si) (B:=Sl++Sf) h2;obtain⟨Zl,Zf,rfl,hzl,hzf⟩:=Az hzr
 have hp:(Zi++(Zl++Zf)).Perm ((Zi++Zf)++Zl):=by
  rw[List.append_assoc];exact List.Perm.append_left _ List.perm_append_comm
 have hus:VTs m (ys.map (·.2)) (ys.map λq=>a.eval q.1) []:=EW (CQ ht) λq hq=>h4.ev (has.all q hq)
 obtain⟨f,tmps,assign,body,hrun,hR⟩:=hY i _ hi Sl hJ (Si++Sf) m N _ _ (by simp[hzi,hzf,hzl]) (h3.perm hp).self hus;refine⟨λ_ _=>trivial,?_⟩
 have hexec:(Oper.semAt (FW ro).round a.eval ⟨dst,.call ⟨.value x,(ys.map (·.1)).toArray,ats⟩,ty,pos,after,none⟩).run P m.w= .ok (.round l f tmps assign body) m.w:=by
  rw[Oper.semAt_eq _ _ _ (by simp)];simp only[execOp,resolve,hyv,Deferred.ofValue,invoke,Sem.run_bind,Sem.run_pure,Result.andThen_ok];rw[show(#[]:Array Value)++Array.map a.eval (ys.map (·.1)).toArray=(ys.map λq=>a.eval q.1).toArray from by simp[Function.comp_def]];exact hrun
 rw[hexec];refine⟨λh=>(by simp[FW,Fence.wide]at h),RoundIn.mono (F:=FW ro) (n:=0-1) hR λe w' he=>?_⟩;obtain⟨b,Sl',m',N',Z',rfl,rfl,hm,G',kT,kF⟩:=he;obtain⟨Za,Zl',rfl,hza,hzl'⟩:=Az hm;obtain⟨Zi',Zf',rfl,hzi',hzf'⟩:=Az hza
 have hp':((Zi'++Zf')++Zl').Perm (Zi'++(Zl'++Zf')):=by
  rw[List.append_assoc];exact List.Perm.append_left _ List.perm_append_comm
 refine hK _ _ ?_
 have hrel:Rel nt m0 ⟨AW T dst (.prim (.bool b)),Si++(Sl'++Sf)⟩ (a.put dst (.bool b)) m'.w:=
  ⟨m',N',_,rfl,by simp[hzi',hzf',hzl'],(h3.after G').perm hp',(h4.mono G'.le).put (Bo hd) (BM _)⟩
 cases b with
 |true=>exact kt Sl' (kT rfl) m0 _ _ hrel
 |false=>exact kf Sl' (kF rfl) m0 _ _ hrel
theorem Good.newRaw{m0 m:Mem}{N:Nat}{R:Zs}{ex:List Nat}(G:Good m0 m N R ex)(o:Obj)(m':Mem)(hm':m'=⟨m.μ,λy=>m.U y\/y=N,m.w.alloc o,m.F⟩):
  Good m0 m' (N+1) (((N,.raw m.w.heap.size o),[m.w.heap.size])::R) ex/\m.Le m':=by
 subst hm';have hle:m.Le ⟨m.μ,λy=>m.U y\/y=N,m.w.alloc o,m.F⟩:=⟨λy h=>.inl h,λ_ _ _ h=>h,λb hb=>⟨hb,Below.heap_alloc _ _ _ (G.frz b hb)⟩⟩;refine⟨Good.swap (zs:=[]) (zs':=[((N,.raw m.w.heap.size o),[m.w.heap.size])]) (R:=R) (ex:=ex) (ex':=ex) G hle (by omega) (λy _ _=>rfl) (λb hb _ _=>Below.heap_alloc _ _ _ hb) ?_ ?_ ?_ ?_ ?_ ?_ ?_ rfl rfl rfl (by simp),hle⟩
 ·intro z hz
  simp only[List.mem_singleton]at hz;subst hz;exact⟨rfl,.inr rfl,World.alloc_heap_new _ _⟩
 ·refine List.nodup_append.2 ⟨by simp[Zs.own],(List.nodup_append.1 G.own).2.1,λb hb c hc e=>?_⟩
  simp only[Zs.own,List.flatMap_cons,List.flatMap_nil,List.append_nil,List.mem_singleton]at hb;have:=(G.blk c (by simp[hc])).1;omega
 ·intro b hb
  simp only[Zs.own,List.flatMap_cons,List.flatMap_nil,List.append_nil,List.mem_append,List.mem_singleton]at hb;rcases hb with rfl|hb
  ·exact⟨by simp,λh=>Nat.lt_irrefl _ (G.frz _ h),.inr (.inr (Nat.le_refl _))⟩
  ·have:=G.blk b (by simp[hb])
   exact⟨by have:=this.1;simp;omega,this.2,.inr (.inl hb)⟩
 ·intro b hb
  exact⟨by have:=G.frz b hb;simp;omega,.inl hb⟩
 ·simp[Zs.keys]
 ·intro y hy
  simp only[Zs.keys,List.map_cons,List.map_nil,List.mem_singleton]at hy;subst hy;exact⟨by omega,.inr (Nat.le_refl _)⟩
 ·intro y hy
  rcases hy with hy|rfl
  ·have:=G.usedN y hy;exact⟨by omega,.inl hy⟩
  ·exact⟨by omega,.inr (.inr (Nat.le_refl _))⟩
theorem Good.newFrz{m0 m:Mem}{N:Nat}{R:Zs}{ex:List Nat}(G:Good m0 m N R ex)(o:Obj)(m':Mem)(hm':m'=⟨m.μ,m.U,m.w.alloc o,λb=>m.F b\/b=m.w.heap.size⟩):
  Good m0 m' N R ex/\m.Le m':=by
 subst hm';have hle:m.Le ⟨m.μ,m.U,m.w.alloc o,λb=>m.F b\/b=m.w.heap.size⟩:=⟨λy h=>h,λ_ _ _ h=>h,λb hb=>⟨.inl hb,Below.heap_alloc _ _ _ (G.frz b hb)⟩⟩;refine⟨Good.swap (zs:=[]) (zs':=[]) (R:=R) (ex:=ex) (ex':=ex) G hle (by omega) (λy _ _=>rfl) (λb hb _ _=>Below.heap_alloc _ _ _ hb) (λz hz=>by cases hz) ?_ ?_ ?_ (by simp[Zs.keys]) (λy hy=>by simp[Zs.keys]at hy) ?_ rfl rfl rfl (by simp),hle⟩
 ·simpa[Zs.own]using(List.nodup_append.1 G.own).2.1
 ·intro b hb
  simp only[Zs.own,List.flatMap_nil,List.nil_append]at hb;have:=G.blk b (by simp[hb]);refine⟨by have:=this.1;simp;omega,?_,.inr (.inl hb)⟩;rintro(h|h)
  ·exact this.2 h
  ·have:=this.1;omega
 ·intro b hb
  rcases hb with hb|rfl
  ·exact⟨by have:=G.frz b hb;simp;omega,.inl hb⟩
  ·exact⟨by simp,.inr (.inr (.inr (Nat.le_refl _)))⟩
 ·intro y hy
  exact⟨G.usedN y hy,.inl hy⟩
theorem Good.setRaw{m0 m:Mem}{N X b:Nat}{o:Obj}{bs:List Nat}{R:Zs}{ex:List Nat}(G:Good m0 m N (((X,.raw b o),bs)::R) ex)(o':Obj)(m':Mem)(hm':m'={m with w:=m.w.putObj b o'}):
  Good m0 m' N (((X,.raw b o'),bs)::R) ex/\m.Le m':=by
 subst hm';obtain⟨rfl,hU,hb⟩:=G.obj _ (List.mem_cons_self ..);have hbk:=G.blk b (by simp[Zs.own]);have hle:m.Le {m with w:=m.w.putObj b o'}:=⟨λy h=>h,λ_ _ _ h=>h,λc hc=>⟨hc,World.putObj_heap_other (by rintro rfl;exact hbk.2 hc)⟩⟩;have own:=G.own;refine⟨Good.swap (zs:=[((X,.raw b o),[b])]) (zs':=[((X,.raw b o'),[b])]) (R:=R) (ex:=ex) (ex':=ex) G hle (by omega) (λy _ _=>rfl) (λc _ hc _=>World.putObj_heap_other (by simpa[Zs.own]using hc)) ?_ ?_ ?_ ?_ (by simp[Zs.keys]) ?_ ?_ rfl rfl rfl (by simp),hle⟩
 ·intro z hz
  simp only[List.mem_singleton]at hz;subst hz;exact⟨rfl,hU,World.putObj_heap_same hbk.1⟩
 ·have hp:(Zs.own (((X,AO.raw b o),[b])::R)++ex).Perm (R.own++([b]++ex)):=by
   rw[BR,List.append_assoc];refine List.perm_append_comm.trans ?_;rw[List.append_assoc];exact List.Perm.append_left _ List.perm_append_comm
  have:=(List.nodup_append.1 (hp.nodup_iff.1 own)).2.1;simpa[Zs.own]using this
 ·intro c hc
  simp only[Zs.own,List.flatMap_cons,List.flatMap_nil,List.append_nil,List.mem_append,List.mem_singleton]at hc;have hk:=G.blk c (by simp only[BR,List.mem_append,List.mem_singleton];rcases hc with h|h<;>simp[h]);exact⟨by simpa using hk.1,hk.2,by rcases hc with h|h<;>simp[Zs.own,h]⟩
 ·intro c hc
  exact⟨by simpa using G.frz c hc,.inl hc⟩
 ·intro y hy
  simp only[Zs.keys,List.map_cons,List.map_nil,List.mem_singleton]at hy⊢;subst hy;exact⟨G.keyN y (by simp[Zs.keys]),.inl rfl⟩
 ·intro y hy
  exact⟨G.usedN y hy,.inl hy⟩
theorem Good.note{m0 m:Mem}{N:Nat}{R:Zs}{ex:List Nat}(G:Good m0 m N R ex)(K:AV->Value->Prop)(hK:∀v u,K v u->VV m v u [])(m':Mem)(hm':m'={m with U:=λy=>m.U y\/y=N}):
  Good m0 m' (N+1) (((N,.tv K),[])::R) ex/\m.Le m':=by
 subst hm';have hle:m.Le {m with U:=λy=>m.U y\/y=N}:=⟨λy h=>.inl h,λ_ _ _ h=>h,λb hb=>⟨hb,rfl⟩⟩;refine⟨Good.one (zs:=[]) (zs':=[((N,.tv K),[])]) (R:=R) G _ (N+1) rfl rfl hle (by omega) (λy _ hy=>rfl) ?_ rfl (by simp[Zs.keys]) ?_ ?_,hle⟩
 ·intro z hz
  simp only[List.mem_singleton]at hz;subst hz;exact⟨rfl,.inr rfl,λv u h=>(hK v u h).mono hle (by simp)⟩
 ·intro y hy
  simp only[Zs.keys,List.map_cons,List.map_nil,List.mem_singleton]at hy;subst hy;exact⟨by omega,.inr (Nat.le_refl _)⟩
 ·intro y hy
  rcases hy with hy|rfl
  ·have:=G.usedN y hy;exact⟨by omega,.inl hy⟩
  ·exact⟨by omega,.inr (.inr (Nat.le_refl _))⟩
end
section
variable {P:Program}{nt:Nat}{m0 m:Mem}
theorem Rel.setRaw{T:List (Nat×AV)}{pre G:List AC}{X l:Nat}{o o':Obj}{a:Act}{w:World}(h:Rel nt m0 ⟨T,pre++(X,.raw l o)::G⟩ a w):w.heap[l]?=some o/\Rel nt m0 ⟨T,pre++(X,.raw l o')::G⟩ a (w.putObj l o'):=by
 obtain⟨m,N,Z,rfl,h2,h3,h4⟩:=h;obtain⟨Zp,Zr,rfl,hzp,hzr⟩:=Az (A:=pre) (B:=(X,.raw l o)::G) h2;cases Zr with
 |nil=>simp at hzr
 |cons z Zg=>
  simp only[List.map_cons,List.cons.injEq]at hzr;obtain⟨⟨x,ob⟩,bs⟩:=z;obtain⟨hz,hzg⟩:=hzr;simp only at hz;injection hz with hz1 hz2
  subst hz1 hz2;have G1:=h3.perm List.perm_middle;have hO:=G1.obj _ (List.mem_cons_self ..);obtain⟨G2,hle⟩:=G1.setRaw o' _ rfl;exact⟨hO.2.2,_,N,Zp++((x,.raw l o'),bs)::Zg,rfl,by simp[hzp,hzg],G2.perm List.perm_middle.symm,h4.mono hle⟩
def RY:List (Nat×AV)->List Nat->List AV->List (Nat×AV)
 |T,d::ds,v::vs=>RY ((d,v)::T) ds vs
 |T,_,_=>T
theorem TRel.zip:∀{ps:List Nat} {vs:List AV} {us:List Value} {T:List (Nat×AV)} {tm:Array Value},TRel m0 m nt T {tmps:=tm,defers:=[]}->VTs m vs us []->(∀d∈ps,d<nt)->TRel m0 m nt (RY T ps vs) {tmps:=(ps.zip us).foldl (λt q=>t.setIfInBounds q.1 q.2) tm,defers:=[]}
 |[],vs,us,T,tm,h,hv,hd=>by cases vs<;>exact h
 |d::ps,[],us,T,tm,h,hv,hd=>by obtain⟨rfl,_⟩:=hv;exact h
 |d::ps,v::vs,us,T,tm,h,hv,hd=>by
  obtain⟨u,us',b1,b2,rfl,e,h1,h2⟩:=(Bi hv.ntup).1 hv;obtain⟨rfl,rfl⟩:b1=[]/\b2=[]:=by simpa using e.symm
  have h3:=h.put (dst:=some d) (λe he=>by cases he;exact hd d (by simp)) h1;exact TRel.zip (T:=(d,v)::T) h3 h2 λd hd'=>hd d (by simp[hd'])
def XS(F1 F2:List AC)(K:St->Prop):Exit->St->Prop
 |.normal,st=>∃pre,(pre++F1).Sublist st.S/\K ⟨st.T,pre++F2⟩
 |_,_=>False
def W1(P:Program)(nt:Nat)(Q:Exit->St->Prop)(T:List (Nat×AV))(Sf:List AC)(nxt:List AC->Prop)(F:List AC):Exit->St->Prop
 |.normal,st=>∃pre,(pre++F).Sublist st.S/\nxt pre
 |.ret,st=>∃pre,(pre++F).Sublist st.S/\AWP none P nt .ret Q ⟨T,pre++Sf⟩
 |.exit id,st=>∃pre,(pre++F).Sublist st.S/\AWP none P nt (.exit id) Q ⟨T,pre++Sf⟩
 |_,_=>False
theorem La{β:Type}{g:Operand}{ps:Array Tmp}{assign body:Code}{Q:Exit->St->Prop}{T:List (Nat×AV)}{S Sf:List AC}{gf:FuncId}{cap:List AV}{xs:List (List AV)}(hI:Itr P gf cap xs)(inv:β->List AC)(R:Nat->β->Prop)(b0:β)(hR:R 0 b0)
  (hround:∀(i:Nat) vs b l F1 F2,xs[i]?=some vs->R i b->AWP (some l) P nt assign (XS F1 F2 λst=>AWP (some l) P nt body (W1 P nt Q T Sf (λpre=>∃b',R (i+1) b' /\pre=inv b') F2) st) ⟨RY T ps.toList vs,inv b++F1⟩)
  (hdone:∀b,R xs.length b->Q .normal ⟨T,inv b++Sf⟩)
  (hg:ev T g=some (.fn gf cap)) (hs:B4 cap=true) (hps:ps.toList.all (Nat.blt · nt)=true) (hlen:∀vs∈xs,vs.length=ps.size) (hS:(inv b0++Sf).Sublist S):AWP none P nt (.rangeFunc g ps assign body) Q ⟨T,S⟩:=by
 intro m0 a w hr;obtain⟨m,N,Z,rfl,h2,h3,h4⟩:=hr.sub hS;obtain⟨cs,e1,hcap⟩:=h4.ev hg;injection e1 with e1
 refine wpIn_rangeFunc ?_;intro fn _;obtain⟨rec,hrec⟩:∃rec:LoopState->Option Code->Loop,rec=λst pe=>{state:=st,pending:=pe,fn,tmps:=a.tmps,params:=ps,assign,body,defers:=m.w.heap.size}:=⟨_,rfl⟩
 obtain⟨G1,hle1⟩:=h3.newFrz (.deferred (some [])) _ rfl;obtain⟨G2,hle2⟩:=G1.newRaw (.loop (rec .ready none)) _ rfl;have hle12:=hle1.trans hle2;obtain⟨m2,hm2⟩:∃m2:Mem,(⟨m.μ,λy=>m.U y\/y=N,(m.w.alloc (.deferred (some []))).alloc (.loop (rec .ready none)),λb=>m.F b\/b=m.w.heap.size⟩:Mem)=m2:=⟨_,rfl⟩;have hw2:(m.w.alloc (.deferred (some []))).alloc (.loop (rec .ready none))=m2.w:=by rw[<-hm2]
 have G2':Good m0 m2 (N+1) (((N,.raw (m.w.heap.size+1) (.loop (rec .ready none))),[m.w.heap.size+1])::Z) []:=by
  rw[<-hm2];have:=G2;simp only[World.size_alloc]at this;exact this
 have hle:m.Le m2:=by rw[<-hm2];exact hle12
 have hV2:∀d v,Ab T d=some v->∃u,a.tmps[d]?=some u/\VV m2 v u []:=(h4.mono hle).2.2;obtain⟨K,hK⟩:∃K:AV->Value->Prop,K=λv u=>∃d,Ab T d=some v/\a.tmps[d]?=some u:=⟨_,rfl⟩
 obtain⟨G3,hle3⟩:=G2'.note K (λv u h=>by
  rw[hK]at h;obtain⟨d,h5,h6⟩:=h;obtain⟨u',h7,h8⟩:=hV2 d v h5;rw[h6]at h7;injection h7 with h7
  rw[h7];exact h8) _ rfl
 obtain⟨m3,hm3⟩:∃m3:Mem,{m2 with U:=λy=>m2.U y\/y=N+1}=m3:=⟨_,rfl⟩;rw[hm3]at G3 hle3;have hw3:m3.w=m2.w:=by rw[<-hm3]
 have h0F:m3.F m.w.heap.size:=by rw[<-hm3,<-hm2];exact .inr rfl
 have h0D:m3.w.heap[m.w.heap.size]?=some (.deferred (some [])):=by
  rw[hw3,<-hw2];exact(Below.heap_alloc _ _ _ (by simp)).trans (World.alloc_heap_new m.w _)
 have hle03:m.Le m3:=hle.trans hle3;obtain⟨l,hl⟩:=nm (m.w.heap.size+1);rw[hl]at G3;clear G1 G2 G2' hle1 hle2 hle12;obtain⟨Zi,Zf,rfl,hzi,hzf⟩:=Az (A:=inv b0) (B:=Sf) h2
 have hsl:∀(A B C D:List (AC×List Nat)),(A++(B++(C++D))).Perm (C++(B++(A++D))):=λA B C D=>by
  have p1:(A++(B++(C++D))).Perm ((C++(B++A))++D):=by
   rw[<-List.append_assoc,<-List.append_assoc];refine List.Perm.append_right _ ?_;refine List.perm_append_comm.trans (List.Perm.append_left _ List.perm_append_comm)
  simpa[List.append_assoc]using p1
 let J:Nat->List AC->Prop:=λi Sl=>∃b,R i b/\Sl=inv b++(N,.raw l (.loop (rec .ready none)))::(N+1,.tv K)::Sf
 let Jx:List AC->Prop:=λSl=>∃c pre,Sl=pre++(N,.raw l (.loop (rec .done (some c))))::(N+1,.tv K)::Sf/\AWP none P nt c Q ⟨T,pre++Sf⟩
 have hY:Yld P (.func (.yield l) #[] #[]) xs J Jx:=by
  refine⟨l,rfl,?_⟩;rintro i vs hi Sl ⟨b,hRb,rfl⟩ Si mr Nr Zr us hZr Gr hus
  have hRel0:Rel nt mr ⟨RY T ps.toList vs,inv b++(N,.raw l (.loop (rec .ready none)))::((N+1,.tv K)::Sf++Si)⟩ {tmps:=(ps.toList.zip us).foldl (λt q=>t.setIfInBounds q.1 q.2) a.tmps,defers:=[]} mr.w:=by
   obtain⟨Za,Zb,rfl,hza,hzb⟩:=Az (A:=Si) hZr;have hp:(Za++Zb).Perm (Zb++Za):=List.perm_append_comm;refine⟨mr,Nr,Zb++Za,rfl,by simp[hza,hzb],Gr.perm hp,TRel.zip ⟨h4.1,DRel.nil rfl,λd v hd=>?_⟩ hus λd hd=>?_⟩
   ·have hO:∃bs,((N+1,AO.tv K),bs)∈Zb:=by
     have:(N+1,AO.tv K)∈Zb.map (·.1):=by rw[hzb];simp
     obtain⟨⟨q,bs⟩,hq,rfl⟩:=List.mem_map.1 this;exact⟨bs,hq⟩
    obtain⟨bs,hO⟩:=hO;have:=Gr.obj _ (List.mem_append_right _ hO);obtain⟨_,_,hk⟩:=this;obtain⟨u,h5,_⟩:=h4.2.2 d v hd;exact⟨u,h5,hk v u (by rw[hK];exact⟨d,hd,h5⟩)⟩
   ·have:=List.all_eq_true.1 hps d hd
    simpa[Nat.blt_eq]using this
  have hheap:=(hRel0.setRaw (o':=.deferred none)).1
  have hus2:us.length=ps.size:=by
   rw[(VTs.get hus).1];exact hlen vs (List.mem_of_getElem? hi)
  refine⟨fn,(ps.toList.zip us).foldl (λt q=>t.setIfInBounds q.1 q.2) a.tmps,assign,body,?_,?_⟩
  ·have:=run_yield (P:=P) (args:=us.toArray) hheap (by rw[hrec];simpa using hus2)
   rw[this,hrec];simp only
   congr 2
   rw[<-Array.foldl_toList];simp[Array.toList_zip]
  ·have hA:=hround i vs b l _ ((N,.raw l (.loop (rec .busy none)))::((N+1,.tv K)::Sf++Si)) hi hRb mr _ _ hRel0
   refine roundIn_of_wpIn (F:=FW none) trivial (wpIn_mono (F:=FW (some l)) hA λe a' w' ⟨st',hr',hq⟩=>?_);cases e with
   |normal=>
    obtain⟨pre,hsub,hk⟩:=hq;obtain⟨hb1,hr2⟩:=(hr'.sub (T:=st'.T) hsub).setRaw (o':=.loop (rec .busy none));refine⟨_,run_beginRound hb1 (by rw[hrec]),?_⟩
    have hr3:Rel nt mr ⟨st'.T,pre++(N,.raw l (.loop (rec .busy none)))::((N+1,.tv K)::Sf++Si)⟩ a' (w'.putObj l (.loop {rec .ready none with state:=.busy})):=by
     have:({rec .ready none with state:=.busy}:Loop)=rec .busy none:=by rw[hrec]
     rw[this];exact hr2
    refine wpIn_mono (F:=FW (some l)) (hk mr _ _ hr3) λe a2 w2 ⟨st2,hr4,hq2⟩=>?_
    have fin:∀(pre2:List AC) (jump:Option Code) (st:LoopState),st=(if jump.isNone then LoopState.ready else .done)->(pre2++(N,.raw l (.loop (rec .busy none)))::((N+1,.tv K)::Sf++Si)).Sublist st2.S->
      ((jump.isNone=true->J (i+1) (pre2++(N,.raw l (.loop (rec st jump)))::(N+1,.tv K)::Sf))/\(jump.isNone=false->Jx (pre2++(N,.raw l (.loop (rec st jump)))::(N+1,.tv K)::Sf)))->
      ∃v w',(Instr.endRound l jump).run P w2= .ok v w' /\∃b Sl' m' N' Z',Ending.returned v= .returned (.bool b)/\m'.w=w' /\Z'.map (·.1)=Si++Sl' /\Good mr m' N' Z' []/\(b=true->J (i+1) Sl')/\(b=false->Jx Sl'):=by
     intro pre2 jump st hst hsub2 hj;obtain⟨hb3,hr5⟩:=(hr4.sub (T:=st2.T) hsub2).setRaw (o':=.loop (rec st jump));refine⟨_,_,run_endRound jump hb3,jump.isNone,pre2++(N,.raw l (.loop (rec st jump)))::(N+1,.tv K)::Sf,?_⟩;have hrq:({rec .busy none with state:=if jump.isNone then .ready else .done,pending:=jump}:Loop)=rec st jump:=by rw[hrec,hst]
     rw[hrq];obtain⟨m',N',Z',h5,h6,h7,h8⟩:=hr5;have h6':Z'.map (·.1)=(pre2++(N,.raw l (.loop (rec st jump)))::(N+1,.tv K)::Sf)++Si:=by simpa using h6
     obtain⟨Zc,Zd,rfl,hzc,hzd⟩:=Az h6';exact⟨m',N',Zd++Zc,rfl,h5,by simp only[List.map_append,hzc,hzd],h7.perm List.perm_append_comm,hj.1,hj.2⟩
    cases e with
    |normal=>
     obtain⟨pre2,hsub2,b',hRb',rfl⟩:=hq2;exact fin (inv b') none .ready rfl hsub2 ⟨λ_=>⟨b',hRb',rfl⟩,λh=>by cases h⟩
    |ret=>
     obtain⟨pre2,hsub2,hx⟩:=hq2;exact fin pre2 (some .ret) .done rfl hsub2 ⟨λh=>(by cases h),λ_=>⟨_,pre2,rfl,hx⟩⟩
    |exit id=>
     obtain⟨pre2,hsub2,hx⟩:=hq2;exact fin pre2 (some (.exit id)) .done rfl hsub2 ⟨λh=>(by cases h),λ_=>⟨_,pre2,rfl,hx⟩⟩
    |goto t=>exact hq2.elim
    |panic ch=>exact hq2.elim
    |outgrown=>exact hq2.elim
   |_=>exact hq.elim
 have hSp:=hI.2 _ J Jx hY (inv b0++(N,.raw l (.loop (rec .ready none)))::(N+1,.tv K)::Sf) ⟨b0,hR,rfl⟩
 have hcall:=hSp.run [] m3 (N+1+1) (Zi++((N,.raw l (.loop (rec .ready none))),[l])::((N+1,.tv K),[])::Zf) (#[.func (.yield l) #[] #[]]++cs) (by simp[hzi,hzf])
  (by
   refine(G3.perm ?_).self;have:=hsl [((N+1,.tv K),[])] [((N,.raw l (.loop (rec .ready none))),[l])] Zi Zf;simpa using this) (by
   have h5:=Gh hs (VCs.mono hle03 cap (by simp) hcap);have:=(Bi (m:=m3) (a:=.prim (.func (.yield l) #[] #[])) (as:=cap) (vs:=.func (.yield l) #[] #[]::cs.toList) (bs:=[]) rfl).2 ⟨_,_,[],[],rfl,rfl,⟨⟨rfl,rfl⟩,rfl⟩,h5⟩;simpa using this)
 refine⟨l,[Hz m.w.heap.size],m3.w,{target:=.fn (.func gf) cs,args:=#[.func (.yield l) #[] #[]]},m3.w,gf,#[.func (.yield l) #[] #[]]++cs,m3.w,?_,?_,?_,?_,?_,?_⟩
 ·rw[hw3,<-hw2,hrec,<-hl]
  exact run_enterLoop_outer fn a.tmps ps assign body
 ·simp only[resolve,rangeCall,e1,Deferred.ofValue]
  simp[Sem.run_pure,Act.eval]
 ·exact λ_ _=>trivial
 ·have hf:=hI.1
  unfold Kh at hf;split at hf
  ·rename_i fn' hfn
   simp only[Bool.and_eq_true,Bool.not_eq_true']at hf
   have hb:fn'.body.isNone=false:=by
    cases hfb:fn'.body with
    |none=>rw[hfb]at hf;simp at hf
    |some c=>rfl
   have h1:¬fn'.name= "runtime.NumGoroutine" :=by simpa using hf.1
   have h2:¬fn'.body=none:=by intro h;rw[h]at hb;cases hb
   simp[invoke,callFunc,program,Sem.run_bind,Sem.run,Result.andThen_ok,hfn,h1,h2]
  ·cases hf
 ·exact λh=>(by simp[FW,Fence.wide]at h)
 ·refine IA (hcall.mono ?_)
  rintro e w' ⟨v,r,S',m',N',Z',br,rfl,rfl,hm,G',hv,hq⟩;rw[List.append_nil]at hm;obtain⟨G'',_⟩:=Good.freeze (ex:=br) (ex':=[]) (by simpa using(G3.perm (by have:=hsl [((N+1,.tv K),[])] [((N,.raw l (.loop (rec .ready none))),[l])] Zi Zf;simpa using this)).after G') _ rfl;have hle':m3.Le {m' with F:=λb=>m'.F b\/b∈br}:=G'.le.trans ⟨λ_ h=>h,λ_ _ _ h=>h,λb hb=>⟨.inl hb,rfl⟩⟩
  have hT':TRel m0 {m' with F:=λb=>m'.F b\/b∈br} nt T {a with defers:=[Hz m.w.heap.size]++a.defers}:=by
   have h5:=h4.mono (hle03.trans hle');refine⟨h5.1,?_,h5.2.2⟩;obtain⟨ds,h6,h7,h8⟩:=h4.2.1;refine⟨m.w.heap.size::ds,by rw[h6];rfl,List.nodup_cons.2 ⟨λh=>?_,h7⟩,λd hd=>?_⟩
   ·have:=h3.frz _ (h8 _ h).2.1
    omega
   ·rcases List.mem_cons.1 hd with rfl|hd
    ·exact⟨h3.size,(hle'.F _ h0F).1,(hle'.F _ h0F).2.trans h0D⟩
    ·obtain⟨h9,h10,h11⟩:=h8 d hd
     exact⟨h9,((hle03.trans hle').F _ h10).1,((hle03.trans hle').F _ h10).2.trans h11⟩
  have fin:∀(pre:List AC) (rc:Loop),rc.state≠ .busy->S'=pre++(N,.raw l (.loop rc))::(N+1,.tv K)::Sf->∃w4,(Instr.endLoop l).run P m'.w= .ok rc.pending w4/\Rel nt m0 ⟨T,pre++Sf⟩ {a with defers:=[Hz m.w.heap.size]++a.defers} w4:=by
   rintro pre rc hrc rfl;have hrel:Rel nt m0 ⟨T,pre++(N,.raw l (.loop rc))::((N+1,.tv K)::Sf)⟩ {a with defers:=[Hz m.w.heap.size]++a.defers} m'.w:=⟨{m' with F:=λb=>m'.F b\/b∈br},N',Z',rfl,hm,G'',hT'⟩;obtain⟨hb5,hr5⟩:=hrel.setRaw (o':=.loop {rc with state:=.exhausted});refine⟨_,run_endLoop hb5 hrc,hr5.sub ?_⟩;exact List.Sublist.append_left (List.Sublist.cons _ (List.Sublist.cons _ (List.Sublist.refl _))) _
  rcases hq with⟨b,hRb,hS'⟩|⟨c,pre,hS',hx⟩
  ·obtain⟨w4,h5,h6⟩:=fin (inv b) (rec .ready none) (by rw[hrec];simp) hS'
   refine⟨none,w4,by rw[h5,hrec],_,h6,hdone b hRb⟩
  ·obtain⟨w4,h5,h6⟩:=fin pre (rec .done (some c)) (by rw[hrec];simp) hS'
   exact⟨some c,w4,by rw[h5,hrec],hx m0 _ _ h6⟩
end
end
section
variable {ro:Option Nat}
open Go.RowKit
section
variable {P:Program}{nt:Nat}{ops:Array Oper}
theorem Qe{m0:Mem}{st:St}{effs:List Eff}{Q':Exit->Act->World->Prop}{k:Nat}(hk:effs.length=k)(heff:effs.map (·.o)=ops.toList.take k)(hloc:∀i e,effs[i]?=some e->JQ P nt ops e (stX effs 0 (λj=>decide (j<i)) st))
  (hc:Ca effs (BT ops.toList [])=true) (hdn:down ops.toList 0=true) (htail:∀i,k<=i->i<ops.size->∃m,(BT ops.toList [])[i]?=some m/\∀j,j<i->m.testBit j=true)
  (hQ:∀fuel (X:Array Bool) a w,X.size=ops.size->(∀j,j<k->j<ops.size->X.getD j false=true)->(∀j,k<=j->X.getD j false=false)->((List.range ops.size).filter λj=>!X.getD j false).length<=fuel->Rel nt m0 (stX effs 0 (λ_=>true) st) a w->wpAnyIn (FW ro) 0 P .any ops Q' fuel X a w):
  ∀(fuel:Nat) (X:Array Bool) (a:Act) (w:World),X.size=ops.size->(∀j o,ops.toList[j]?=some o->X.getD j false=true->∀e∈o.after.toList,Region.binds .any e=true->X.getD e.on false=true)->(∀j,k<=j->X.getD j false=false)->
   ((List.range ops.size).filter λj=>!X.getD j false).length<=fuel->Rel nt m0 (stX effs 0 (λj=>X.getD j false) st) a w->wpAnyIn (FW ro) 0 P .any ops Q' fuel X a w:=by
 have hkn:k<=ops.size:=by
  have:=congrArg List.length heff;simp only[List.length_map,List.length_take,Array.length_toList]at this;omega
 have done:∀fuel (X:Array Bool) a w,X.size=ops.size->(∀j,k<=j->X.getD j false=false)->(∀j,j<k->X.getD j false=true)->((List.range ops.size).filter λj=>!X.getD j false).length<=fuel->Rel nt m0 (stX effs 0 (λj=>X.getD j false) st) a w->wpAnyIn (FW ro) 0 P .any ops Q' fuel X a w:=by
  intro fuel X a w hX hno hall hf hr;refine hQ fuel X a w hX (λj hj _=>hall j hj) hno hf ?_
  have hT:∀t,Ab (stX effs 0 (λj=>X.getD j false) st).T t=Ab (stX effs 0 (λ_=>true) st).T t:=λt=>
   CJ (λj e he _=>by rw[Nat.zero_add];exact hall j (by rw[<-hk];exact(List.getElem?_eq_some_iff.1 he).1)) rfl
  have hS:(stX effs 0 (λj=>X.getD j false) st).S=(stX effs 0 (λ_=>true) st).S:=List.ext_getElem? λp=>
   Cj (λj e he _=>by rw[Nat.zero_add];exact hall j (by rw[<-hk];exact(List.getElem?_eq_some_iff.1 he).1)) rfl rfl
  have hr':Rel nt m0 ⟨(stX effs 0 (λ_=>true) st).T,(stX effs 0 (λj=>X.getD j false) st).S⟩ a w:=B9 hr λd v h=>(hT d).trans h
  rw[hS]at hr';exact hr'
 have ready:∀(X:Array Bool),X.size=ops.size->Region.ready .any ops X=[]->∀j,j<ops.size->X.getD j false=true:=by
  intro X hX hnil j
  induction j using Nat.strongRecOn with
  |_ j ih=>
   intro hj;cases hx:X.getD j false with
   |true=>rfl
   |false=>
    exfalso
    have:j∈Region.ready .any ops X:=by
     refine List.mem_filter.2 ⟨List.mem_range.2 hj,?_⟩;have ho:ops[j]?=some ops[j]:=by simp[hj]
     have hx':X.getD j true=false:=by
      have hjX:j<X.size:=by omega
      simp only[Array.getD_eq_getD_getElem?,Array.getElem?_eq_getElem hjX,Option.getD_some]at hx⊢;exact hx
     simp only[hx',ho,Option.map_some,Option.getD_some,Bool.not_false,Bool.true_and];rw[Array.all_eq_true'];intro e he;cases hb:Region.binds .any e with
     |false=>simp
     |true=>
      have hlt:=EG _ 0 hdn j ops[j] (by simp[hj]) e (by simpa using he) hb;have:=ih e.on (by omega) (by omega);simpa using this
    rw[hnil]at this;cases this
 intro fuel
 induction fuel with
 |zero=>
  intro X a w hX hdc hno hf hr
  have hall:∀j,j<ops.size->X.getD j false=true:=by
   intro j hj;have hnil:=List.eq_nil_of_length_eq_zero (Nat.le_zero.1 hf);cases hx:X.getD j false with
   |true=>rfl
   |false=>
    have:j∈(List.range ops.size).filter λj=>!X.getD j false:=List.mem_filter.2 ⟨List.mem_range.2 hj,by simp only[hx,Bool.not_false]⟩
    rw[hnil]at this;cases this
  exact done 0 X a w hX hno (λj hj=>hall j (by omega)) hf hr
 |succ fuel ih=>
  intro X a w hX hdc hno hf hr;by_cases hhead:∀j,j<k->X.getD j false=true
  ·exact done _ X a w hX hno hhead hf hr
  obtain⟨j0,hj0,hX0⟩:∃j,j<k/\X.getD j false=false:=by
   simp only[Classical.not_forall]at hhead;obtain⟨j,hj,hx⟩:=hhead;exact⟨j,hj,by simpa using hx⟩
  refine⟨λhnil=>absurd (ready X hX hnil j0 (by omega)) (by rw[hX0];simp),λi hi=>?_⟩;obtain⟨hi1,hi2⟩:=List.mem_filter.1 hi;have hin:=List.mem_range.1 hi1;have ho:ops[i]?=some ops[i]:=by simp[hin]
  have hiX:i<X.size:=by omega
  simp only[ho,Option.map_some,Option.getD_some,Bool.and_eq_true]at hi2
  have hXi:X.getD i false=false:=by
   have h:=hi2.1;simp only[Array.getD_eq_getD_getElem?,Array.getElem?_eq_getElem hiX,Option.getD_some]at h⊢;simpa using h
  have hpre:∀e∈(ops[i]).after.toList,Region.binds .any e=true->X.getD e.on false=true:=by
   intro e he hb;have:=Array.all_eq_true'.1 hi2.2 e (by simpa using he);simpa[hb]using this
  have hik:i<k:=by
   refine Nat.lt_of_not_le λhle=>?_
   obtain⟨mk,hmk,hmb⟩:=htail i hle hin
   have hcl2:=Bt (λk=>X.getD k false||decide (k=i)) ops.toList [] (λk o hk hXk ee hee hb=>by
    simp only[List.length_nil,Nat.zero_add,Bool.or_eq_true,decide_eq_true_eq]at hXk⊢;rcases hXk with h|h
    ·exact .inl (hdc k o hk h ee hee hb)
    ·subst h
     have:o=ops[k]:=by simpa[hin]using hk.symm
     subst this;exact .inl (hpre ee hee hb)) (λj m h=>by simp at h) i mk hmk (by simp) j0 (hmb j0 (by omega))
   simp only[Bool.or_eq_true,decide_eq_true_eq,hX0]at hcl2;rcases hcl2 with h|h
   ·cases h
   ·omega
  obtain⟨e,he⟩:∃e,effs[i]?=some e:=⟨effs[i]'(by omega),List.getElem?_eq_getElem (by omega)⟩
  have heo:e.o=ops[i]:=by
   have h1:(effs.map (·.o))[i]?=some e.o:=by simp[he]
   rw[heff,List.getElem?_take_of_lt hik]at h1;simpa[hin]using h1.symm
  have hmask:=Bt (λj=>X.getD j false) ops.toList [] (λj o hj hXj e he hb=>hdc j o hj (by simpa using hXj) e he hb) (λj m h=>by simp at h)
  have hcomp:∀a b ea eb,a<b->effs[a]?=some ea->effs[b]?=some eb->clash ea eb=true->∃m:Nat,(BT ops.toList [])[b]?=some m/\m.testBit a=true:=by
   intro a b ea eb hab hea heb hcl;have h1:=List.all_eq_true.1 hc b (List.mem_range.2 (List.getElem?_eq_some_iff.1 heb).1);have h2:=List.all_eq_true.1 h1 a (List.mem_range.2 hab);simp only[hea,heb]at h2;cases hm:(BT ops.toList [])[b]? with
   |none=>rw[hm]at h2;cases h2
   |some m=>rw[hm]at h2;exact⟨m,rfl,by simpa[hcl]using h2⟩
  have hbefore:∀j ej,j<i->effs[j]?=some ej->clash ej e=true->X.getD j false=true:=by
   intro j ej hj hej hcl;obtain⟨m,hm1,hm2⟩:=hcomp j i ej e hj hej he hcl
   have hcl2:=Bt (λk=>X.getD k false||decide (k=i)) ops.toList [] (λk o hk hXk ee hee hb=>by
    simp only[List.length_nil,Nat.zero_add,Bool.or_eq_true,decide_eq_true_eq]at hXk⊢;rcases hXk with h|h
    ·exact .inl (hdc k o hk h ee hee hb)
    ·subst h
     have:o=ops[k]:=by simpa[hin]using hk.symm
     subst this;exact .inl (hpre ee hee hb)) (λj m h=>by simp at h) i m hm1 (by simp) j hm2
   simp only[Bool.or_eq_true,decide_eq_true_eq]at hcl2;rcases hcl2 with h|h
   ·exact h
   ·omega
  have hafter:∀j ej,i<j->effs[j]?=some ej->clash e ej=true->X.getD j false=false:=by
   intro j ej hj hej hcl;obtain⟨m,hm1,hm2⟩:=hcomp i j e ej hj he hej hcl;cases hx:X.getD j false with
   |false=>rfl
   |true=>
    have:=hmask j m hm1 hx i hm2;rw[hXi]at this;cases this
  have hrT:∀t∈e.rT,Ab (stX effs 0 (λj=>X.getD j false) st).T t=Ab (stX effs 0 (λj=>decide (j<i)) st).T t:=by
   intro t ht;refine CJ (λj ej hej hd=>?_) rfl;rw[Nat.zero_add];rcases Nat.lt_trichotomy j i with h|h|h
   ·rw[hbefore j ej h hej ?_]
    ·simp[h]
    ·cases hcl:clash ej e with
     |true=>rfl
     |false=>exact absurd ht ((Av hcl).1 t hd)
   ·subst h
    rw[hXi];simp
   ·rw[hafter j ej h hej ?_]
    ·simp;omega
    ·cases hcl:clash e ej with
     |true=>rfl
     |false=>exact absurd ht ((Av hcl).2.1 t hd)
  have hrS:∀p∈e.rS,(stX effs 0 (λj=>X.getD j false) st).S[p]?=(stX effs 0 (λj=>decide (j<i)) st).S[p]?:=by
   intro p hp;refine Cj (λj ej hej hd=>?_) rfl rfl;rw[Nat.zero_add];obtain⟨q,hq,rfl⟩:=hd;rcases Nat.lt_trichotomy j i with h|h|h
   ·rw[hbefore j ej h hej ?_]
    ·simp[h]
    ·cases hcl:clash ej e with
     |true=>rfl
     |false=>exact absurd hp ((Av hcl).2.2.2.1 q hq)
   ·subst h
    rw[hXi];simp
   ·rw[hafter j ej h hej ?_]
    ·simp;omega
    ·cases hcl:clash e ej with
     |true=>rfl
     |false=>exact absurd hp ((Av hcl).2.2.2.2.1 q hq)
  have hX':∀k,(X.setIfInBounds i true).getD k false=(X.getD k false||decide (k=i)):=by
   intro k;simp only[Array.getD_eq_getD_getElem?,Array.getElem?_setIfInBounds];by_cases hk:i=k
   ·subst hk;simp[hiX]
   ·simp[hk,Ne.symm hk]
  have hnew:∀a w,Rel nt m0 (e.app (stX effs 0 (λj=>X.getD j false) st)) a w->Rel nt m0 (stX effs 0 (λj=>(X.setIfInBounds i true).getD j false) st) a w:=by
   intro a w hr'
   have hT:∀t,Ab (stX effs 0 (λj=>(X.setIfInBounds i true).getD j false) st).T t=Ab (e.app (stX effs 0 (λj=>X.getD j false) st)).T t:=by
    intro t;by_cases hd:e.o.dst=some t
    ·rw[GN (i:=i) (e:=e) (t:=t) he (by rw[Nat.zero_add,hX'];simp) hd ?_]
     ·simp[Eff.app,hd,AW,Al]
     ·intro j ej hj hej hXj hdj
      rw[Nat.zero_add,hX']at hXj
      have hXj':X.getD j false=true:=by
       simp only[Bool.or_eq_true,decide_eq_true_eq]at hXj;rcases hXj with h|h
       ·exact h
       ·omega
      have:=hafter j ej hj hej (by
       cases hcl:clash e ej with
       |true=>rfl
       |false=>exact absurd hdj ((Av hcl).2.2.1 t hd))
      rw[hXj']at this;cases this
    ·have ap:Ab (e.app (stX effs 0 (λj=>X.getD j false) st)).T t=Ab (stX effs 0 (λj=>X.getD j false) st).T t:=by
      simp only[Eff.app];cases hdd:e.o.dst with
      |none=>rfl
      |some d=>rw[AW,Al,if_neg];exact λh=>hd (by rw[hdd,h])
     rw[ap];refine CJ (λj ej hej hdj=>?_) rfl;rw[Nat.zero_add,hX']
     have:j≠i:=by
      rintro rfl;rw[he]at hej;injection hej with hej
      subst hej;exact hd hdj
     simp[this]
   have hS:(stX effs 0 (λj=>(X.setIfInBounds i true).getD j false) st).S=(e.app (stX effs 0 (λj=>X.getD j false) st)).S:=by
    refine List.ext_getElem? λp=>?_
    by_cases hd:∃q∈e.wS,q.1=p
    ·rw[FZ (i:=i) (e:=e) (p:=p) he (by rw[Nat.zero_add,hX'];simp) hd ?_ (stX effs 0 (λj=>X.getD j false) st).S (Gl ..)]
     ·rfl
     ·intro j ej hj hej hXj hdj
      rw[Nat.zero_add,hX']at hXj
      have hXj':X.getD j false=true:=by
       simp only[Bool.or_eq_true,decide_eq_true_eq]at hXj;rcases hXj with h|h
       ·exact h
       ·omega
      obtain⟨q,hq,hqp⟩:=hd;obtain⟨q',hq',hqp'⟩:=hdj
      have:=hafter j ej hj hej (by
       cases hcl:clash e ej with
       |true=>rfl
       |false=>exact absurd (hqp.trans hqp'.symm) ((Av hcl).2.2.2.2.2 q hq q' hq'))
      rw[hXj']at this;cases this
    ·have ap:(e.app (stX effs 0 (λj=>X.getD j false) st)).S[p]?=(stX effs 0 (λj=>X.getD j false) st).S[p]?:=Dm (λq hq h=>hd ⟨q,hq,h⟩) _
     rw[ap];refine Cj (λj ej hej hdj=>?_) rfl rfl;rw[Nat.zero_add,hX']
     have:j≠i:=by
      rintro rfl;rw[he]at hej;injection hej with hej
      subst hej;exact hd hdj
     simp[this]
   have:=B9 hr' (T':=(stX effs 0 (λj=>(X.setIfInBounds i true).getD j false) st).T) λd v h=>(hT d).symm.trans h
   rw[show(⟨(stX effs 0 (λj=>(X.setIfInBounds i true).getD j false) st).T,AX (stX effs 0 (λj=>X.getD j false) st).S e.wS⟩:St)=stX effs 0 (λj=>(X.setIfInBounds i true).getD j false) st from by
    rw[show AX (stX effs 0 (λj=>X.getD j false) st).S e.wS=(e.app (stX effs 0 (λj=>X.getD j false) st)).S from rfl,<-hS]]at this
   exact this
  have next:∀a w,Rel nt m0 (e.app (stX effs 0 (λj=>X.getD j false) st)) a w->wpAnyIn (FW ro) 0 P .any ops Q' fuel (X.setIfInBounds i true) a w:=by
   intro a w hr';refine ih _ a w (by simp[hX]) ?_ ?_ ?_ (hnew a w hr')
   ·intro j o hj hXj ee hee hb
    rw[hX']at hXj⊢;simp only[Bool.or_eq_true,decide_eq_true_eq]at hXj⊢;rcases hXj with h|h
    ·exact .inl (hdc j o hj h ee hee hb)
    ·subst h
     have:o=ops[j]:=by simpa[hin]using hj.symm
     subst this;exact .inl (hpre ee hee hb)
   ·intro j hj
    rw[hX',hno j hj];simp;omega
   ·have e1:(List.range ops.size).filter (λj=>!(X.setIfInBounds i true).getD j false)=((List.range ops.size).filter λj=>!X.getD j false).filter λj=>!decide (j=i):=by
     rw[List.filter_filter]
     congr 1
     funext j
     rw[hX'];cases X.getD j false<;>simp
    have hmem:i∈(List.range ops.size).filter λj=>!X.getD j false:=List.mem_filter.2 ⟨List.mem_range.2 hin,by simp only[hXi,Bool.not_false]⟩
    have:=(List.length_filter_lt_length_iff_exists (l:=(List.range ops.size).filter λj=>!X.getD j false) (p:=λj=>!decide (j=i))).2 ⟨i,hmem,by simp⟩;rw[e1];omega
  have hl:=hloc i e he m0 _ _ a w hrT hrS hr;unfold wpOpIn;simp only[ho];rw[heo]at hl;by_cases hw:Region.wanted ops[i] (yielded ops a.tmps)=true
  ·rw[if_pos hw]at hl⊢
   exact Fs hl next
  ·rw[if_neg hw]at hl⊢
   exact⟨λ_ _=>trivial,next _ _ hl⟩
theorem Uc{Q':Exit->Act->World->Prop}(hdn:down ops.toList 0=true):∀(fuel i:Nat) (X:Array Bool) (a:Act) (w:World),X.size=ops.size->(∀j,j<i->j<ops.size->X.getD j false=true)->(∀j,i<=j->X.getD j false=false)->
  (∀i',i<=i' ->i'<ops.size->∃m,(BT ops.toList [])[i']?=some m/\∀j,j<i' ->m.testBit j=true)->
  ((List.range ops.size).filter λj=>!X.getD j false).length<=fuel->wpListIn (FW ro) 0 P ops Q' (ops.toList.drop i) a w->wpAnyIn (FW ro) 0 P .any ops Q' fuel X a w:=by
 intro fuel
 induction fuel with
 |zero=>
  intro i X a w hX h1 h2 h3 hf h;have hnil:=List.eq_nil_of_length_eq_zero (Nat.le_zero.1 hf)
  have hin:ops.size<=i:=by
   refine Nat.le_of_not_lt λhlt=>?_
   have:i∈(List.range ops.size).filter λj=>!X.getD j false:=List.mem_filter.2 ⟨List.mem_range.2 hlt,by simp only[h2 i (Nat.le_refl _),Bool.not_false]⟩
   rw[hnil]at this;cases this
  rw[List.drop_eq_nil_of_le (by simpa using hin)]at h;refine⟨List.filter_eq_nil_iff.2 λj hj=>?_,h⟩;have hj':=List.mem_range.1 hj;have:=h1 j (by omega) hj';have hjX:j<X.size:=by omega
  simp only[Array.getD_eq_getD_getElem?,Array.getElem?_eq_getElem hjX,Option.getD_some]at this⊢;simp[this]
 |succ fuel ih=>
  intro i X a w hX h1 h2 h3 hf h
  have hget:∀j,X.getD j true=false->j<ops.size/\X.getD j false=false:=by
   intro j hj
   have hjX:j<X.size:=by
    refine Nat.lt_of_not_le λhle=>?_
    rw[Array.getD_eq_getD_getElem?,Array.getElem?_eq_none hle]at hj;cases hj
   refine⟨by omega,?_⟩;simp only[Array.getD_eq_getD_getElem?,Array.getElem?_eq_getElem hjX,Option.getD_some]at hj⊢;exact hj
  by_cases hin:i<ops.size
  ·have ho:ops[i]?=some ops[i]:=by simp[hin]
   have hready:i∈Region.ready .any ops X:=by
    refine List.mem_filter.2 ⟨List.mem_range.2 hin,?_⟩
    have hx':X.getD i true=false:=by
     have hx:=h2 i (Nat.le_refl _);have hjX:i<X.size:=by omega
     simp only[Array.getD_eq_getD_getElem?,Array.getElem?_eq_getElem hjX,Option.getD_some]at hx⊢;exact hx
    simp only[hx',ho,Option.map_some,Option.getD_some,Bool.not_false,Bool.true_and];rw[Array.all_eq_true'];intro e he;cases hb:Region.binds .any e with
    |false=>simp
    |true=>
     have hlt:=EG _ 0 hdn i ops[i] (by simp[hin]) e (by simpa using he) hb;have:=h1 e.on (by omega) (by omega);simpa using this
   refine⟨λhnil=>(by rw[hnil]at hready;cases hready),λj hj=>?_⟩;obtain⟨hj1,hj2⟩:=List.mem_filter.1 hj;have hjn:=List.mem_range.1 hj1;have hoj:ops[j]?=some ops[j]:=by simp[hjn]
   simp only[hoj,Option.map_some,Option.getD_some,Bool.and_eq_true]at hj2;obtain⟨_,hXj⟩:=hget j (by simpa using hj2.1);have hij:i<=j:=Nat.le_of_not_lt λhlt=>by rw[h1 j hlt hjn]at hXj;cases hXj
   have hji:j=i:=by
    refine Nat.le_antisymm (Nat.le_of_not_lt λhlt=>?_) hij;obtain⟨mk,hmk,hmb⟩:=h3 j hij hjn
    have hcl2:=Bt (λk=>decide (k<i)||decide (k=j)) ops.toList [] (λk o hk hXk ee hee hb=>by
     simp only[List.length_nil,Nat.zero_add,Bool.or_eq_true,decide_eq_true_eq]at hXk⊢;rcases hXk with h|h
     ·have:=EG _ 0 hdn k o hk ee hee hb
      left;omega
     ·subst h
      have:o=ops[k]:=by simpa[hjn]using hk.symm
      subst this;have hp:=Array.all_eq_true'.1 hj2.2 ee (by simpa using hee);have hq:X.getD ee.on false=true:=by simpa[hb]using hp
      left;exact Nat.lt_of_not_le λhle=>by rw[h2 ee.on hle]at hq;cases hq) (λj m h=>by simp at h) j mk hmk (by simp) i (hmb i hlt)
    simp only[Bool.or_eq_true,decide_eq_true_eq]at hcl2;omega
   subst hji;rw[List.drop_eq_getElem_cons (by simpa using hin)]at h
   have hX':∀k,(X.setIfInBounds j true).getD k false=(X.getD k false||decide (k=j)):=by
    intro k;simp only[Array.getD_eq_getD_getElem?,Array.getElem?_setIfInBounds];by_cases e:j=k
    ·subst e;simp[show j<X.size by omega]
    ·have:¬k=j:=λh=>e h.symm
     simp[e,this]
   have nxt:∀a w,wpListIn (FW ro) 0 P ops Q' (ops.toList.drop (j+1)) a w->wpAnyIn (FW ro) 0 P .any ops Q' fuel (X.setIfInBounds j true) a w:=by
    intro a w hw;refine ih (j+1) _ a w (by simp[hX]) (λk hk hkn=>?_) (λk hk=>?_) (λi' hi'=>h3 i' (by omega)) ?_ hw
    ·rw[hX']
     by_cases e:k=j
     ·simp[e]
     ·rw[h1 k (by omega) hkn];rfl
    ·rw[hX',h2 k (by omega)]
     simp;omega
    ·have e1:(List.range ops.size).filter (λk=>!(X.setIfInBounds j true).getD k false)=((List.range ops.size).filter λk=>!X.getD k false).filter λk=>!decide (k=j):=by
      rw[List.filter_filter]
      congr 1
      funext k
      rw[hX'];cases X.getD k false<;>simp
     have hmem:j∈(List.range ops.size).filter λk=>!X.getD k false:=List.mem_filter.2 ⟨List.mem_range.2 hin,by simp only[hXj,Bool.not_false]⟩
     have:=(List.length_filter_lt_length_iff_exists (l:=(List.range ops.size).filter λk=>!X.getD k false) (p:=λk=>!decide (k=j))).2 ⟨j,hmem,by simp⟩;rw[e1];omega
   unfold wpOpIn;simp only[ho];unfold wpListIn at h;simp only[Array.getElem_toList]at h;by_cases hw:Region.wanted ops[j] (yielded ops a.tmps)=true
   ·rw[if_pos hw]at h⊢
    exact Oper.wpIn_mono nxt h
   ·rw[if_neg hw]at h⊢
    exact⟨h.1,nxt _ _ h.2⟩
  ·rw[List.drop_eq_nil_of_le (by simpa using Nat.le_of_not_lt hin)]at h
   refine⟨λ_=>h,λj hj=>?_⟩;obtain⟨hj1,hj2⟩:=List.mem_filter.1 hj;have hjn:=List.mem_range.1 hj1;have hoj:ops[j]?=some ops[j]:=by simp[hjn]
   simp only[hoj,Option.map_some,Option.getD_some,Bool.and_eq_true]at hj2;obtain⟨_,hXj⟩:=hget j (by simpa using hj2.1);rw[h1 j (by omega) hjn]at hXj;cases hXj
theorem KU:∀(r:List Oper) (acc:List Nat),(BT r acc).length=acc.length+r.length
 |[],acc=>by simp[BT]
 |o::r,acc=>by rw[BT,KU r];simp;omega
theorem MP(l:List Oper):(BT l []).length=l.length:=by rw[KU];simp
def Qv:Nat->List Nat->Bool
 |_,[]=>true
 |i,m::r=>(List.range i).all (λj=>m.testBit j)&&Qv (i+1) r
theorem Jv:∀{r:List Nat} {i:Nat},Qv i r=true->∀q m,r[q]?=some m->∀j,j<i+q->m.testBit j=true
 |[],i,_,q,m,h=>by simp at h
 |m0::r,i,ht,q,m,h=>by
  simp only[Qv,Bool.and_eq_true]at ht;intro j hj;cases q with
  |zero=>
   simp at h;subst h;exact List.all_eq_true.1 ht.1 j (List.mem_range.2 (by omega))
  |succ q=>exact Jv ht.2 q m (by simpa using h) j (by omega)
theorem Db{Q:Exit->St->Prop}{id:Nat}{l:List Oper}{st:St}(k:Nat)(hm:P.follows .mixedOrders=true)(hdn:down l 0=true)(hT:Qv k ((BT l []).drop k)=true)
  (h:RGo P nt l.toArray l (λ_ st'=>AOps ro P nt l.toArray Q (l.drop k) st') (l.take k) [] st):AWP ro P nt (.region id l.toArray true) Q st:=by
 obtain⟨effs,st',hr,hc,hA⟩:=h;rw[List.nil_append]at hc;intro m0 a w hrel;obtain⟨h1,h2,h3⟩:=hr.spec;have hml:(BT l []).length=l.length:=MP l
 have htail:∀i,k<=i->i<l.toArray.size->∃m,(BT l.toArray.toList [])[i]?=some m/\∀j,j<i->m.testBit j=true:=by
  intro i hki hil;have hil':i<(BT l []).length:=by rw[hml];simpa using hil
  refine⟨(BT l [])[i],by simp,λj hj=>?_⟩;refine Jv hT (i-k) _ ?_ j (by omega);rw[List.getElem?_drop,Nat.add_sub_cancel' hki];exact List.getElem?_eq_getElem hil'
 refine wpIn_region_any hm ?_;have hlen:effs.length=(l.take k).length:=by have:=congrArg List.length h2;simpa using this
 by_cases hkl:k<=l.length
 ·have hek:effs.length=k:=by rw[hlen,List.length_take,Nat.min_eq_left hkl]
  refine Qe (m0:=m0) (st:=st) (effs:=effs) (k:=k) hek (by simpa using h2) h3 (by simpa using hc) (by simpa using hdn) htail ?_ _ _ a _ (by simp) ?_ ?_ ?_ ?_
  ·intro fuel X a w hX hall hno hf hr'
   refine Uc (by simpa using hdn) fuel k X a w hX hall hno htail hf ?_;have:=hA m0 a w (by rw[h1];exact hr');simpa using this
  ·intro j o hj hX
   have:j<l.length:=by simpa using(List.getElem?_eq_some_iff.1 hj).1
   simp[this]at hX
  ·intro j _
   simp only[Array.getD_eq_getD_getElem?,Array.getElem?_replicate];split<;>rfl
  ·exact Nat.le_trans (List.length_filter_le _ _) (by simp)
  ·have:(λj=>(Array.replicate l.toArray.size false).getD j false)=λ_=>false:=by
    funext j
    simp only[Array.getD_eq_getD_getElem?,Array.getElem?_replicate];split<;>rfl
   rw[this,Dw];exact hrel.draw _
 ·have hkl':=Nat.le_of_not_le hkl
  rw[List.take_of_length_le hkl']at h2;rw[List.drop_eq_nil_of_le hkl']at hA;refine Mm (m0:=m0) (st:=st) (effs:=effs) (by simpa using h2) h3 (by simpa using hc) (by simpa using hdn) (λa w h=>?_) _ _ a _ (by simp) ?_ ?_ ?_
  ·have:=hA m0 a w (by rw[h1];exact h)
   exact this
  ·intro j o hj hX
   have:j<l.length:=by simpa using(List.getElem?_eq_some_iff.1 hj).1
   simp[this]at hX
  ·exact Nat.le_trans (List.length_filter_le _ _) (by simp)
  ·have:(λj=>(Array.replicate l.toArray.size false).getD j false)=λ_=>false:=by
    funext j
    simp only[Array.getD_eq_getD_getElem?,Array.getElem?_replicate];split<;>rfl
   rw[this,Dw];exact hrel.draw _
end
end
section
variable {ro:Option Nat}
open Go.RowKit
theorem Tk{β:Type}{R:β->Prop}{μ:β->Nat}{m:Nat}{inv:β->St}{st:St}(b':β)(hR:R b')(hS:(inv b').S.Sublist st.S)(hμ:μ b'<m:=by omega)(hT:Looks st.T (inv b').T:=by exact(by(repeat (first|exact .nil|refine .cons (by first|rfl|assumption) ?_)))):∃b',R b' /\μ b'<m/\st.Le (inv b'):=⟨b',hR,hμ,hT,hS⟩
theorem Sn(a:AV):a.frz.cells=AV.frzs a.cells:=by cases a<;>rfl
theorem Frz.fp{a b:AV}(h:Frz a b):Frz (.fp a.cells) (.fp b.cells):=⟨by show AV.fp (AV.frzs a.cells)=_;rw[<-Sn,h.h]⟩
instance {f:FuncId}{l l':List AV}[h:Frzs l l']:Frz (.fn f l) (.fn f l'):=⟨by show AV.fn f (AV.frzs l)=_;rw[h.h]⟩
instance {l l':List AV}[h:Frzs l l']:Frz (.fp l) (.fp l'):=⟨by show AV.fp (AV.frzs l)=_;rw[h.h]⟩
theorem Frz.fn1{f:FuncId}{a b:AV}(h:Frz a b):Frz (.fn f [a]) (.fn f [b]):=⟨by show AV.fn f [a.frz]=_;rw[h.h]⟩
section
variable {P:Program}{nt:Nat}{ops:Array Oper}{Q:Exit->St->Prop}{rest:List Oper}{T:List (Nat×AV)}{S:List AC}{dst:Option Tmp}{ty t te:TypeId}{pos:String}{after:Array Edge}{g:Option (Nat×Bool)}{x y:Operand}{X p sz:Nat}{l:List AV}
theorem Us(he:CW P t=some te)(hsz:tSz P te=some sz):OpT P ⟨dst,.buildSlice t 0 #[],ty,pos,after,g⟩ [] [(p,(X,.gone))] (.sl X 0 0) [(p,(X,.row te sz []))]:=by
 refine OpT.new_ (λm a hx=>?_);refine⟨#[],0,.slice (some ⟨m.w.heap.size,0,none⟩) 0 0,?_,by simp,by simp,by decide,by simp,⟨by simp,rfl⟩,.inr ⟨0,rfl,Nat.le_refl _,rfl⟩⟩
 have hr:(Instr.buildSlice t 0 #[]).run P m.w= .ok (.slice (some ⟨m.w.heap.size,0,none⟩) 0 0) (m.w.alloc (.cells #[] te)):=by
  simp[Instr.buildSlice,run_underlying (BU he),Dg hsz,Sem.run_bind,Result.andThen_ok,Sem.run_pure,Instr.fill,newRow];rw[show∀f:Nat->Value,Array.map f (Array.range 0)=#[]from λf=>Array.size_eq_zero_iff.1 (by simp)]
 simp[execOp,Sem.run_bind,hr,Sem.run_pure,Result.andThen_ok]
theorem AOps.val{o:Oper}{xs:List (Operand×AV)}{K:AV->Prop}(hg:o.guard=none)(hnd:∀c,o.op≠ .defer c)(h:∀(m:Mem) (a:Act),(∀q∈xs,VV m q.2 (a.eval q.1) [])->∃u v,(execOp a.eval o).run P m.w= .ok (.value u) m.w/\VV m v u []/\K v)(hx:Evs T xs)(hd:AU o.dst nt=true)
  (k:∀v,K v->AOps ro P nt ops Q rest ⟨AW T o.dst v,S⟩):AOps ro P nt ops Q (o::rest) ⟨T,S⟩:=by
 rintro m0 a w ⟨m,N,Z,rfl,h2,h3,h4⟩;refine wpListIn_plain hg λK' hK=>⟨λ_ _=>trivial,?_⟩
 obtain⟨u,v,h5,h6,h7⟩:=h m a λq hq=>h4.ev (hx.all q hq)
 rw[Oper.semAt_eq _ _ _ hnd,h5];exact hK _ _ (k v h7 m0 _ _ ⟨m,N,Z,rfl,h2,h3,h4.put (Bo hd) h6⟩)
theorem AOps.isNil[TEl P t te](k:∀b:Bool,(b=true->l=[])->AOps ro P nt ops Q rest ⟨AW T dst (.prim (.bool b)),S⟩){t':TypeId}(hx:ev T x=some (.lst false t' sz l):=by rfl)(hd:AU dst nt=true:=by rfl):AOps ro P nt ops Q (⟨dst,.binOp .eql t x (.const (.slice none 0 0)) t,ty,pos,after,none⟩::rest) ⟨T,S⟩:=by
 refine AOps.val (xs:=[(x,.lst false t' sz l)]) (K:=λv=>∃b:Bool,(b=true->l=[])/\v= .prim (.bool b)) rfl (by simp) (λm a hv=>?_) (.cons hx .nil) hd λv ⟨b,hb,e⟩=>e▸k b hb
 obtain⟨_,A,cap,e1,_,_,h0⟩:=hv _ (List.mem_cons_self ..);injection e1 with e1
 simp only at e1;refine⟨.bool A.isNone,.prim (.bool A.isNone),?_,BM _,A.isNone,λhn=>?_,rfl⟩
 ·have:=Lib.run_eql_slice_nil (P:=P) m.w t te A l.length cap 0 0 (BU TEl.h)
  have hc:a.eval (.const (.slice none 0 0))= .slice none 0 0:=rfl;have hq:(eqGuard .eql t x (.const (.slice none 0 0)) (.slice A l.length cap) (.slice none 0 0)).run P m.w= .ok () m.w:=rfl;simp[execOp,e1,hc,Sem.run_bind,Sem.run_pure,Result.andThen_ok,this,hq]
 ·cases l with
  |nil=>rfl
  |cons a l=>
   obtain⟨b,off,arr,t,r,e2,_⟩:=h0 (by simp);rw[e2]at hn;cases hn
theorem My[TEl P t te][TSize P te sz](k:∀X,AOps ro P nt ops Q rest ⟨AW T dst (.sl X 0 0),(X,.row te sz [])::S⟩)(hd:AU dst nt=true:=by rfl):AOps ro P nt ops Q (⟨dst,.buildSlice t 0 #[],ty,pos,after,none⟩::rest) ⟨T,S⟩:=
 AOps.rs λX=>AOps.step (o:=⟨dst,.buildSlice t 0 #[],ty,pos,after,none⟩) (xs:=[]) (rS:=[(0,(X,.gone))]) rfl (Us TEl.h TSize.h) .nil (.cons .here .nil) hd (k X)
section
variable {Si Sl Sf:List AC}{yv:Value}{xs:List (List AV)}{J:Nat->List AC->Prop}{Jx:List AC->Prop}{ats:Array TypeId}{i:Nat}{x0 x1:Operand}{v0 v1:AV}
theorem JR(hY:Yld P yv xs J Jx)(hJ:J i Sl)(hi:xs[i]?=some [v0,v1])(kt:∀Sl',J (i+1) Sl' ->AOps ro P nt ops Q rest ⟨AW T dst (.prim (.bool true)),Si++(Sl'++Sf)⟩)(kf:∀Sl',Jx Sl' ->AOps ro P nt ops Q rest ⟨AW T dst (.prim (.bool false)),Si++(Sl'++Sf)⟩)
  (hx:ev T x=some (.prim yv):=by rfl) (h0:ev T x0=some v0:=by rfl) (h1:ev T x1=some v1:=by rfl) (ht:Am [(x0,v0),(x1,v1)]=true:=by rfl) (hd:AU dst nt=true:=by rfl):AOps ro P nt ops Q (⟨dst,.call ⟨.value x,#[x0,x1],ats⟩,ty,pos,after,none⟩::rest) ⟨T,Si++(Sl++Sf)⟩:=
 AOps.yield (ys:=[(x0,v0),(x1,v1)]) hY hJ hi hx (.cons h0 (.cons h1 .nil)) ht hd kt kf
end
theorem FB{kk kk':IntKind}{zl:List Value}{ag:Bool}{m by_:Nat}{i j:Int}(a:AV)[TEl P t te][TZe P te zl][TSize P te sz][TAg P te ag][TBy P te by_](k:∀X,AOps ro P nt ops Q rest ⟨AW T dst (.sl X 0 m),(X,.row te sz (List.replicate m a))::S⟩)
  (hx:Rd none T x (.prim (.int kk i)):=by rfl) (hy:Rd none T y (.prim (.int kk' j)):=by rfl) (hq:i=(m:Int):=by rfl) (hq':j=(m:Int):=by rfl) (hm:m<=1099511627776:=by first|assumption|omega|(simp;omega)) (hby:by_<=128:=by decide) (hzs:zl.length=sz:=by exact rfl) (hag:ag=true\/zl.length=1:=by first|exact .inl rfl|exact .inr rfl) (hz:zAV zl ag=a:=by exact rfl) (hd:AU dst nt=true:=by rfl):AOps ro P nt ops Q (⟨dst,.makeSlice t x y,ty,pos,after,none⟩::rest) ⟨T,S⟩:=by
 subst hz;exact AOps.rs λX=>AOps.s (W.make hx hy .here hzs hag hq hq' (Nat.le_refl _) (Nat.le_trans (Nat.mul_le_mul hby hm) (by decide)) (Nat.le_trans hm (by decide))) hd (k X)
theorem DG{st:St}(k:AOps ro P nt ops Q (⟨dst,.makeSlice t x y,ty,pos,after,g⟩::rest) st):AOps ro P nt ops Q (⟨dst,.makeSlice t x y,ty,pos,after,g⟩::rest) st:=k
end
end
theorem BI{P:Program}{Sf:List AC}{Q:AV->List AC->Prop}{st:St}(S':List AC)(hQ:Q (.tup []) S')(hS:(S'++Sf).Sublist st.S:=by(repeat (first|exact List.Sublist.refl _|exact List.Sublist.slnil|apply List.Sublist.cons_cons|apply List.Sublist.cons))):Ends P [] Sf Q st:=⟨[],[],st.S,S',.nil,.nil,hS,hQ⟩
end Go.Proofs.YtiidbamlcgbpnaaGreat
