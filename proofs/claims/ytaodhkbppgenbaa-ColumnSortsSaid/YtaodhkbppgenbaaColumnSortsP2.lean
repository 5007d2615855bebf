/-
  Part 2 of the texts under the law ColumnSorts: the layer of abstract values, walks and plain laws. Conditions: those that each theorem names.
-/
import Derived.RangeFuncRecord
import Derived.Lib.SliceRun
import Derived.Laws.StructEq
import Derived.Lib.Overlaps
import Derived.Laws.BytesString
import Derived.Laws.BitsAllLaws
import Derived.Maps.OwnSet
import Derived.Test.YtaodhkbppgenbaaColumnSortsP1
namespace Go.Proofs.Ytaodhkbppgenbaa
set_option linter.unusedVariables false
set_option linter.unusedSimpArgs false
set_option linter.defProp false
set_option maxRecDepth 10000
set_option maxHeartbeats 4000000
section
variable {ro:Option Nat}
open Go.RowKit
class TAg(P:Program)(t:TypeId)(b:outParam Bool):Prop where h:EI P t=some b
class TSize(P:Program)(t:TypeId)(n:outParam Nat):Prop where h:tSz P t=some n
class TEl(P:Program)(t:TypeId)(e:outParam TypeId):Prop where h:Bb P t=some e
class TFl(P:Program)(s:TypeId)(f:Nat)(off:outParam Nat)(ft:outParam TypeId):Prop where h:FG P s f=some (off,ft)
class TSt(P:Program)(t:TypeId)(zl:outParam (List Value))(pl:outParam (List (Nat×Nat))):Prop where h:F0 P t=some (zl,pl)
class TZe(P:Program)(t:TypeId)(zl:outParam (List Value)):Prop where h:tZ P t=some zl
class TBy(P:Program)(t:TypeId)(n:outParam Nat):Prop where h:(P.info? t).map (·.bytes)=some n
class TRo(P:Program)(t:TypeId)(te:outParam TypeId)(sz by_:outParam Nat):Prop where h:Gh P t=some (te,sz,by_)
class TSg(P:Program)(t:TypeId):Prop where h:P.underlying t=some .string
def Rd:Option (List Bool)->List (Nat×AV)->Operand->AV->Prop
 |none,T,x,v=>ev T x=some v
 |some cs,T,x,v=>∃w,ev T x=some w/\Strips cs w v
theorem Strips.a1{c:Bool}{v:AV}:Strips [c] (.opt c v) v:=.step (by simp) .refl
theorem Rd.q{cs:List Bool}{T:List (Nat×AV)}{x:Operand}{w v:AV}(h:ev T x=some w)(k:Strips cs w v):Rd (some cs) T x v:=⟨w,h,k⟩
inductive Rds(c:Option (List Bool))(T:List (Nat×AV)):List (Operand×AV)->Prop
 |nil:Rds c T []
 |cons {x:Operand} {v:AV} {r:List (Operand×AV)} (h:Rd c T x v) (k:Rds c T r):Rds c T ((x,v)::r)
structure Stp(c:Option (List Bool))(P:Program)(o:Oper)(T:List (Nat×AV))(S:List AA)(xs:List (Operand×AV))(rS:List (Nat×AA))(v:AV)(wS:List (Nat×AA)):Prop where
 op:OpT P o xs rS v wS
 rd:Rds c T xs
 get:Gets S rS
theorem Rds.evs{T:List (Nat×AV)}{xs:List (Operand×AV)}(h:Rds none T xs):Evs T xs:=by
 induction h with
 |nil=>exact .nil
 |cons h _ ih=>exact .cons h ih
theorem Rds.evcs{c:List Bool}{T:List (Nat×AV)}{xs:List (Operand×AV)}(h:Rds (some c) T xs):EvCs c T xs:=by
 induction h with
 |nil=>exact .nil
 |cons h _ ih=>obtain⟨w,h,hs⟩:=h;exact .cons h hs ih
section
variable {P:Program}{nt:Nat}{ops:Array Oper}{Q:Exit->St->Prop}{rest:List Oper}{st':St}{T:List (Nat×AV)}{S:List AA}{xs:List (Operand×AV)}{rS wS:List (Nat×AA)}{v:AV}{effs:List Eff}{op:Op}{ty:TypeId}{pos:String}{after:Array Edge}{dst:Option Tmp}
theorem AOps.p(h:Stp none P ⟨dst,op,ty,pos,after,none⟩ T S xs rS v [])(hd:AD dst nt=true)(k:AOps ro P nt ops Q rest ⟨AE T dst v,S⟩):AOps ro P nt ops Q (⟨dst,op,ty,pos,after,none⟩::rest) ⟨T,S⟩:=.step rfl h.op h.rd.evs h.get hd k
theorem AOps.s(h:Stp none P ⟨dst,op,ty,pos,after,none⟩ T S xs rS v wS)(hd:AD dst nt=true)(k:AOps ro P nt ops Q rest ⟨AE T dst v,AF S wS⟩):AOps ro P nt ops Q (⟨dst,op,ty,pos,after,none⟩::rest) ⟨T,S⟩:=.step rfl h.op h.rd.evs h.get hd k
theorem AOps.sQ{g:Nat}{b b':Bool}{t:Nat}{wg:AV}{cs:List Bool}(ht:(ops[g]?).bind (·.dst)=some t)(hv:AI T t=some wg)(hc:Bj wg=some (cs,b'))(h:Stp (some (cs++[b'==b])) P ⟨dst,op,ty,pos,after,some (g,b)⟩ T S xs rS v [])(hd:AD dst nt=true)(hos:Ah xs=true)
  (k:AOps ro P nt ops Q rest ⟨AE T dst (B9 (cs++[b'==b]) v),S⟩):AOps ro P nt ops Q (⟨dst,op,ty,pos,after,some (g,b)⟩::rest) ⟨T,S⟩:=.stepQ rfl ht hv hc (λ_=>h.op) h.rd.evcs h.get hd hos k
theorem AOps.sN{g:Nat}{b b':Bool}{t:Nat}(ht:(ops[g]?).bind (·.dst)=some t)(hv:AI T t=some (.prim (.bool b')))(hb:b'= !b)(hd:AD dst nt=true)(k:AOps ro P nt ops Q rest ⟨AE T dst .dead,S⟩):AOps ro P nt ops Q (⟨dst,op,ty,pos,after,some (g,b)⟩::rest) ⟨T,S⟩:=.skipG rfl ht hv hb hd k
theorem AOps.sQ1{g:Nat}{b b':Bool}{t:Nat}(h:Stp (some [b'==b]) P ⟨dst,op,ty,pos,after,some (g,b)⟩ T S xs rS v [])(ht:(ops[g]?).bind (·.dst)=some t)(hv:AI T t=some (.prim (.bool b')))(hd:AD dst nt=true)(hos:Ah xs=true)
  (k:AOps ro P nt ops Q rest ⟨AE T dst (.opt (b'==b) v),S⟩):AOps ro P nt ops Q (⟨dst,op,ty,pos,after,some (g,b)⟩::rest) ⟨T,S⟩:=AOps.sQ ht hv rfl h hd hos k
theorem AOps.sQ2{c1:Bool}{g:Nat}{b b':Bool}{t:Nat}(h:Stp (some [c1,b'==b]) P ⟨dst,op,ty,pos,after,some (g,b)⟩ T S xs rS v [])(ht:(ops[g]?).bind (·.dst)=some t)(hv:AI T t=some (.opt c1 (.prim (.bool b'))))(hd:AD dst nt=true)(hos:Ah xs=true)
  (k:AOps ro P nt ops Q rest ⟨AE T dst (.opt c1 (.opt (b'==b) v)),S⟩):AOps ro P nt ops Q (⟨dst,op,ty,pos,after,some (g,b)⟩::rest) ⟨T,S⟩:=AOps.sQ ht hv rfl h hd hos k
theorem AOps.sQ3{c1 c2:Bool}{g:Nat}{b b':Bool}{t:Nat}(h:Stp (some [c1,c2,b'==b]) P ⟨dst,op,ty,pos,after,some (g,b)⟩ T S xs rS v [])(ht:(ops[g]?).bind (·.dst)=some t)(hv:AI T t=some (.opt c1 (.opt c2 (.prim (.bool b')))))(hd:AD dst nt=true)(hos:Ah xs=true)
  (k:AOps ro P nt ops Q rest ⟨AE T dst (.opt c1 (.opt c2 (.opt (b'==b) v))),S⟩):AOps ro P nt ops Q (⟨dst,op,ty,pos,after,some (g,b)⟩::rest) ⟨T,S⟩:=AOps.sQ ht hv rfl h hd hos k
theorem Run.p(h:Stp none P ⟨dst,op,ty,pos,after,none⟩ T S xs rS v [])(hd:AD dst nt=true)(k:Run P nt ops rest ⟨AE T dst v,S⟩ effs st'):Run P nt ops (⟨dst,op,ty,pos,after,none⟩::rest) ⟨T,S⟩ (⟨⟨dst,op,ty,pos,after,none⟩,AP xs,rS.map (·.1),v,[]⟩::effs) st':=.step rfl h.op h.rd.evs h.get hd k
theorem Run.s(h:Stp none P ⟨dst,op,ty,pos,after,none⟩ T S xs rS v wS)(hd:AD dst nt=true)(k:Run P nt ops rest ⟨AE T dst v,AF S wS⟩ effs st'):Run P nt ops (⟨dst,op,ty,pos,after,none⟩::rest) ⟨T,S⟩ (⟨⟨dst,op,ty,pos,after,none⟩,AP xs,rS.map (·.1),v,wS⟩::effs) st':=.step rfl h.op h.rd.evs h.get hd k
theorem Run.sG{g:Nat}{b b':Bool}{t:Nat}(ht:(ops[g]?).bind (·.dst)=some t)(hv:AI T t=some (.prim (.bool b')))(hb:b'=b)(h:Stp none P ⟨dst,op,ty,pos,after,some (g,b)⟩ T S xs rS v wS)(hd:AD dst nt=true)(k:Run P nt ops rest ⟨AE T dst v,AF S wS⟩ effs st'):Run P nt ops (⟨dst,op,ty,pos,after,some (g,b)⟩::rest) ⟨T,S⟩ (⟨⟨dst,op,ty,pos,after,some (g,b)⟩,t::AP xs,rS.map (·.1),v,wS⟩::effs) st':=
 .stepG rfl ht hv hb h.op h.rd.evs h.get hd k
theorem Run.sQ{g:Nat}{b b':Bool}{t:Nat}{wg:AV}{cs:List Bool}(ht:(ops[g]?).bind (·.dst)=some t)(hv:AI T t=some wg)(hc:Bj wg=some (cs,b'))(h:Stp (some (cs++[b'==b])) P ⟨dst,op,ty,pos,after,some (g,b)⟩ T S xs rS v [])(hd:AD dst nt=true)(hos:Ah xs=true)
  (k:Run P nt ops rest ⟨AE T dst (B9 (cs++[b'==b]) v),S⟩ effs st'):Run P nt ops (⟨dst,op,ty,pos,after,some (g,b)⟩::rest) ⟨T,S⟩ (⟨⟨dst,op,ty,pos,after,some (g,b)⟩,t::AP xs,rS.map (·.1),B9 (cs++[b'==b]) v,[]⟩::effs) st':=.stepQ rfl ht hv hc (λ_=>h.op) h.rd.evcs h.get hd hos k
theorem Run.sN{g:Nat}{b b':Bool}{t:Nat}(ht:(ops[g]?).bind (·.dst)=some t)(hv:AI T t=some (.prim (.bool b')))(hb:b'= !b)(hd:AD dst nt=true)(k:Run P nt ops rest ⟨AE T dst .dead,S⟩ effs st'):Run P nt ops (⟨dst,op,ty,pos,after,some (g,b)⟩::rest) ⟨T,S⟩ (⟨⟨dst,op,ty,pos,after,some (g,b)⟩,[t],[],.dead,[]⟩::effs) st':=.skipG rfl ht hv hb hd k
theorem Run.sQ1{g:Nat}{b b':Bool}{t:Nat}(h:Stp (some [b'==b]) P ⟨dst,op,ty,pos,after,some (g,b)⟩ T S xs rS v [])(ht:(ops[g]?).bind (·.dst)=some t)(hv:AI T t=some (.prim (.bool b')))(hd:AD dst nt=true)(hos:Ah xs=true)
  (k:Run P nt ops rest ⟨AE T dst (.opt (b'==b) v),S⟩ effs st'):Run P nt ops (⟨dst,op,ty,pos,after,some (g,b)⟩::rest) ⟨T,S⟩ (⟨⟨dst,op,ty,pos,after,some (g,b)⟩,t::AP xs,rS.map (·.1),(.opt (b'==b) v),[]⟩::effs) st':=Run.sQ ht hv rfl h hd hos k
theorem Run.sQ2{c1:Bool}{g:Nat}{b b':Bool}{t:Nat}(h:Stp (some [c1,b'==b]) P ⟨dst,op,ty,pos,after,some (g,b)⟩ T S xs rS v [])(ht:(ops[g]?).bind (·.dst)=some t)(hv:AI T t=some (.opt c1 (.prim (.bool b'))))(hd:AD dst nt=true)(hos:Ah xs=true)
  (k:Run P nt ops rest ⟨AE T dst (.opt c1 (.opt (b'==b) v)),S⟩ effs st'):Run P nt ops (⟨dst,op,ty,pos,after,some (g,b)⟩::rest) ⟨T,S⟩ (⟨⟨dst,op,ty,pos,after,some (g,b)⟩,t::AP xs,rS.map (·.1),(.opt c1 (.opt (b'==b) v)),[]⟩::effs) st':=Run.sQ ht hv rfl h hd hos k
theorem Run.sQ3{c1 c2:Bool}{g:Nat}{b b':Bool}{t:Nat}(h:Stp (some [c1,c2,b'==b]) P ⟨dst,op,ty,pos,after,some (g,b)⟩ T S xs rS v [])(ht:(ops[g]?).bind (·.dst)=some t)(hv:AI T t=some (.opt c1 (.opt c2 (.prim (.bool b')))))(hd:AD dst nt=true)(hos:Ah xs=true)
  (k:Run P nt ops rest ⟨AE T dst (.opt c1 (.opt c2 (.opt (b'==b) v))),S⟩ effs st'):Run P nt ops (⟨dst,op,ty,pos,after,some (g,b)⟩::rest) ⟨T,S⟩ (⟨⟨dst,op,ty,pos,after,some (g,b)⟩,t::AP xs,rS.map (·.1),(.opt c1 (.opt c2 (.opt (b'==b) v))),[]⟩::effs) st':=Run.sQ ht hv rfl h hd hos k
section
variable {P:Program}{nt:Nat}{ops:Array Oper}{Q:Exit->St->Prop}{rest:List Oper}{st st':St}{effs:List Eff}{ty t t2:TypeId}{pos:String}{after:Array Edge}{dst:Option Tmp}{g:Option (Nat×Bool)}{x y z:Operand}{f n:Nat}{ar:Array (Nat×Operand)}
theorem AOps.g_box(k:AOps ro P nt ops Q (⟨dst,.box t x,ty,pos,after,g⟩::rest) st):AOps ro P nt ops Q (⟨dst,.box t x,ty,pos,after,g⟩::rest) st:=k
end
def RGo(P:Program)(nt:Nat)(ops:Array Oper)(l:List Oper)(Q:Exit->St->Prop)(rest:List Oper)(acc:List Eff)(st:St):Prop:=
 ∃effs st',Run P nt ops rest st effs st' /\Df (acc++effs) (CU l [])=true/\Q .normal st'
theorem Du{P:Program}{nt:Nat}{Q:Exit->St->Prop}{id:Nat}{l:List Oper}{st:St}(hm:P.follows .mixedOrders=true)(hdn:Ez l 0=true)(h:RGo P nt l.toArray l Q l [] st):AWP ro P nt (.region id l.toArray true) Q st:=by
 obtain⟨effs,st',h1,h2,h3⟩:=h;exact .region_any hm h1 (by simpa using h2) hdn h3
section
variable {P:Program}{nt:Nat}{ops:Array Oper}{Q:Exit->St->Prop}{l rest:List Oper}{acc:List Eff}{st:St}{T:List (Nat×AV)}{S:List AA}{xs:List (Operand×AV)}{rS wS:List (Nat×AA)}{v:AV}{op:Op}{ty:TypeId}{pos:String}{after:Array Edge}{dst:Option Tmp}
theorem RGo.nil(hc:Df acc (CU l [])=true)(k:Q .normal st):RGo P nt ops l Q [] acc st:=⟨[],st,.nil,by simpa using hc,k⟩
theorem BK{o:Oper}{e:Eff}{st':St}(h:∀{effs st''},Run P nt ops rest st' effs st'' ->Run P nt ops (o::rest) st (e::effs) st'')(k:RGo P nt ops l Q rest (acc++[e]) st'):RGo P nt ops l Q (o::rest) acc st:=by
 obtain⟨effs,st'',h1,h2,h3⟩:=k;exact⟨_,_,h h1,by simpa using h2,h3⟩
theorem RGo.p(h:Stp none P ⟨dst,op,ty,pos,after,none⟩ T S xs rS v [])(hd:AD dst nt=true)(k:RGo P nt ops l Q rest (acc++[⟨⟨dst,op,ty,pos,after,none⟩,AP xs,rS.map (·.1),v,[]⟩]) ⟨AE T dst v,S⟩):RGo P nt ops l Q (⟨dst,op,ty,pos,after,none⟩::rest) acc ⟨T,S⟩:=BK (λr=>Run.p h hd r) k
theorem RGo.s(h:Stp none P ⟨dst,op,ty,pos,after,none⟩ T S xs rS v wS)(hd:AD dst nt=true)(k:RGo P nt ops l Q rest (acc++[⟨⟨dst,op,ty,pos,after,none⟩,AP xs,rS.map (·.1),v,wS⟩]) ⟨AE T dst v,AF S wS⟩):RGo P nt ops l Q (⟨dst,op,ty,pos,after,none⟩::rest) acc ⟨T,S⟩:=BK (λr=>Run.s h hd r) k
theorem RGo.sG{g:Nat}{b b':Bool}{t:Nat}(ht:(ops[g]?).bind (·.dst)=some t)(hv:AI T t=some (.prim (.bool b')))(hb:b'=b)(h:Stp none P ⟨dst,op,ty,pos,after,some (g,b)⟩ T S xs rS v wS)(hd:AD dst nt=true)(k:RGo P nt ops l Q rest (acc++[⟨⟨dst,op,ty,pos,after,some (g,b)⟩,t::AP xs,rS.map (·.1),v,wS⟩]) ⟨AE T dst v,AF S wS⟩):RGo P nt ops l Q (⟨dst,op,ty,pos,after,some (g,b)⟩::rest) acc ⟨T,S⟩:=BK (λr=>Run.sG ht hv hb h hd r) k
theorem RGo.sQ1{g:Nat}{b b':Bool}{t:Nat}(h:Stp (some [b'==b]) P ⟨dst,op,ty,pos,after,some (g,b)⟩ T S xs rS v [])(ht:(ops[g]?).bind (·.dst)=some t)(hv:AI T t=some (.prim (.bool b')))(hd:AD dst nt=true)(hos:Ah xs=true)
  (k:RGo P nt ops l Q rest (acc++[⟨⟨dst,op,ty,pos,after,some (g,b)⟩,t::AP xs,rS.map (·.1),(.opt (b'==b) v),[]⟩]) ⟨AE T dst (.opt (b'==b) v),S⟩):RGo P nt ops l Q (⟨dst,op,ty,pos,after,some (g,b)⟩::rest) acc ⟨T,S⟩:=BK (λr=>Run.sQ1 h ht hv hd hos r) k
theorem RGo.sQ2{c1:Bool}{g:Nat}{b b':Bool}{t:Nat}(h:Stp (some [c1,b'==b]) P ⟨dst,op,ty,pos,after,some (g,b)⟩ T S xs rS v [])(ht:(ops[g]?).bind (·.dst)=some t)(hv:AI T t=some (.opt c1 (.prim (.bool b'))))(hd:AD dst nt=true)(hos:Ah xs=true)
  (k:RGo P nt ops l Q rest (acc++[⟨⟨dst,op,ty,pos,after,some (g,b)⟩,t::AP xs,rS.map (·.1),(.opt c1 (.opt (b'==b) v)),[]⟩]) ⟨AE T dst (.opt c1 (.opt (b'==b) v)),S⟩):RGo P nt ops l Q (⟨dst,op,ty,pos,after,some (g,b)⟩::rest) acc ⟨T,S⟩:=BK (λr=>Run.sQ2 h ht hv hd hos r) k
theorem RGo.sQ3{c1 c2:Bool}{g:Nat}{b b':Bool}{t:Nat}(h:Stp (some [c1,c2,b'==b]) P ⟨dst,op,ty,pos,after,some (g,b)⟩ T S xs rS v [])(ht:(ops[g]?).bind (·.dst)=some t)(hv:AI T t=some (.opt c1 (.opt c2 (.prim (.bool b')))))(hd:AD dst nt=true)(hos:Ah xs=true)
  (k:RGo P nt ops l Q rest (acc++[⟨⟨dst,op,ty,pos,after,some (g,b)⟩,t::AP xs,rS.map (·.1),(.opt c1 (.opt c2 (.opt (b'==b) v))),[]⟩]) ⟨AE T dst (.opt c1 (.opt c2 (.opt (b'==b) v))),S⟩):RGo P nt ops l Q (⟨dst,op,ty,pos,after,some (g,b)⟩::rest) acc ⟨T,S⟩:=BK (λr=>Run.sQ3 h ht hv hd hos r) k
theorem RGo.sN{g:Nat}{b b':Bool}{t:Nat}(ht:(ops[g]?).bind (·.dst)=some t)(hv:AI T t=some (.prim (.bool b')))(hb:b'= !b)(hd:AD dst nt=true)(k:RGo P nt ops l Q rest (acc++[⟨⟨dst,op,ty,pos,after,some (g,b)⟩,[t],[],.dead,[]⟩]) ⟨AE T dst .dead,S⟩):RGo P nt ops l Q (⟨dst,op,ty,pos,after,some (g,b)⟩::rest) acc ⟨T,S⟩:=BK (λr=>Run.sN ht hv hb hd r) k
variable {t t2:TypeId}{g:Option (Nat×Bool)}{x y z:Operand}{f n:Nat}{ar:Array (Nat×Operand)}
theorem AL{op:Op}{g:Nat×Bool}(k:RGo P nt ops l Q (⟨dst,op,ty,pos,after,some g⟩::rest) acc st):RGo P nt ops l Q (⟨dst,op,ty,pos,after,some g⟩::rest) acc st:=k
end
theorem CR{c:Code}{st:St}{β:Type}(inv:β->St)(R:β->Prop)(μ:β->Nat)(b0:β)(hR:R b0)(h0:st.Le (inv b0))(round:∀b,R b->AWP ro P nt c (andThen (λst'=>∃b',R b' /\μ b'<μ b/\st'.Le (inv b')) Q) (inv b)):AWP ro P nt (.loop c) Q st:=
 .loop (β:={b:β//R b}) (λb=>inv b.1) (λb=>μ b.1) ⟨b0,hR⟩ h0 λb=>(round b.1 b.2).mono λe st' h=>by
  cases e with
  |normal=>obtain⟨b',h1,h2,h3⟩:=h;exact⟨⟨b',h1⟩,h2,h3⟩
  |_=>exact h
theorem Ae{K:St->Prop}{Q:Exit->St->Prop}{st:St}(h:K st):andThen K Q .normal st:=h
theorem GU{K:St->Prop}{Q:Exit->St->Prop}{st:St}(h:Q .ret st):andThen K Q .ret st:=h
theorem D9{K:St->Prop}{Q:Exit->St->Prop}{st:St}{i:Nat}(h:Q (.exit i) st):andThen K Q (.exit i) st:=h
theorem Hu{id:Nat}{Q:Exit->St->Prop}{st:St}(h:Q .normal st):inB id Q .normal st:=h
theorem IF{id:Nat}{Q:Exit->St->Prop}{st:St}(h:Q .ret st):inB id Q .ret st:=h
theorem Hv{id:Nat}{Q:Exit->St->Prop}{st:St}(h:Q .normal st):inB id Q (.exit id) st:=by
 show(match Nat.beq id id with|true=>Q .normal st|false=>Q (.exit id) st)
 rw[show Nat.beq id id=true from by simp];exact h
theorem G7{id i:Nat}{Q:Exit->St->Prop}{st:St}(hi:Nat.beq i id=false)(h:Q (.exit i) st):inB id Q (.exit i) st:=by
 show(match Nat.beq i id with|true=>Q .normal st|false=>Q (.exit i) st)
 rw[hi];exact h
theorem Hz{res:List ResultVar}{Sf:List AA}{Q:AV->List AA->Prop}{st:St}(h:Ends P res Sf Q st):H0 P res Sf Q .ret st:=h
theorem Bs{res:List ResultVar}{Sf:List AA}{Q:AV->List AA->Prop}{st:St}(h:Ends P res Sf Q st):H0 P res Sf Q .normal st:=h
theorem Cj{t:Nat}{Sf:List AA}{Q:AV->List AA->Prop}{st:St}{a:AV}(h:AI st.T t=some a)(ha:ntup a=true)(hS:Sf.Sublist st.S)(hQ:Q a []):Ends P [.tmp t] Sf Q st:=
 ⟨[a],[a],st.S,[],.cons (.tmp h) ha .nil,.cons (.cell .same) .nil,hS,hQ⟩
theorem Aq{α β:Type}(f:α->β){l:List α}{i:Nat}(h:i<l.length):(l.map f)[i]?=some (f l[i]):=by simp[h]
theorem AOps.rs(k:∀X,AOps ro P nt ops Q rest ⟨T,(X,.gone)::S⟩):AOps ro P nt ops Q rest ⟨T,S⟩:=.reserve k
theorem AWP.rs{c:Code}(k:∀X,AWP ro P nt c Q ⟨T,(X,.gone)::S⟩):AWP ro P nt c Q ⟨T,S⟩:=.reserve k
variable {c:Option (List Bool)}{x y z:Operand}{t ty2 t' te:TypeId}{g:Option (Nat×Bool)}{i j:Int}{k:IntKind}{p q X Y sz n:Nat}{l ls:List AV}{cs:List AV}{e:AV}
theorem OpT.index_strD{P:Program}{dst:Option Tmp}{x y:Operand}{t ty:TypeId}{pos:String}{after:Array Edge}{g:Option (Nat×Bool)}{k:IntKind}{i:Int}{s:List UInt8}{a:Nat}(ht:P.underlying t=some .string)(hq:i=(a:Int))(hi:a<s.length):OpT P ⟨dst,.index t x y,ty,pos,after,g⟩ [(x,.prim (A8 s)),(y,.prim (.int k i))] [] (.prim (.int .u8 ((s.getD a 0).toNat:Int))) []:=by
 rw[show s.getD a 0=s[a]from by simp[hi]];exact .index_str ht hq hi
section
variable {P:Program}{dst:Option Tmp}{x y:Operand}{t ty ty2:TypeId}{pos:String}{after:Array Edge}{g:Option (Nat×Bool)}{k k':IntKind}{i j:Int}{ats:Array TypeId}
theorem OpT.shl{n:Nat}(hj:j=(n:Int))(hn:n<=k.bits):OpT P ⟨dst,.binOp .shl t x y ty2,ty,pos,after,g⟩ [(x,.prim (.int k i)),(y,.prim (.int k' j))] [] (.prim (.int k (k.wrap (i*2^n)))) []:=
 AU rfl (λw=>by
  subst hj;have h:¬((n:Int)<0):=by omega
  simp[binOp,Op.shift,h,Sem.run_pure,Nat.min_eq_left hn]) (.inl ⟨by simp,by simp⟩)
theorem OpT.min2:OpT P ⟨dst,.call ⟨.builtin .min,#[x,y],ats⟩,ty,pos,after,g⟩ [(x,.prim (.int k i)),(y,.prim (.int k j))] [] (.prim (.int k (if j<i then j else i))) []:=
 .pure_ λm a hx _=>by
  have h1:=(hx (x,.prim (.int k i)) (by simp)).prim;have h2:=(hx (y,.prim (.int k j)) (by simp)).prim;simp only at h1 h2;refine⟨_,?_,AQ _⟩;rw[Aj];simp[builtin,Builtin.min_,Builtin.min2,h1,h2,Sem.run_bind,Sem.run_pure,Result.andThen_ok]
theorem OpT.max2:OpT P ⟨dst,.call ⟨.builtin .max,#[x,y],ats⟩,ty,pos,after,g⟩ [(x,.prim (.int k i)),(y,.prim (.int k j))] [] (.prim (.int k (if i<j then j else i))) []:=
 .pure_ λm a hx _=>by
  have h1:=(hx (x,.prim (.int k i)) (by simp)).prim;have h2:=(hx (y,.prim (.int k j)) (by simp)).prim;simp only at h1 h2;refine⟨_,?_,AQ _⟩;rw[Aj];simp[builtin,Builtin.max_,Builtin.max2,h1,h2,Sem.run_bind,Sem.run_pure,Result.andThen_ok]
end
namespace W
theorem move(hx:Rd c T x (v)):Stp c P ⟨dst,.move x,ty,pos,after,g⟩ T S [(x,v)] [] (v) []:=⟨.move,(.cons hx .nil),.nil⟩
theorem assign(hx:Rd c T x (v)):Stp c P ⟨dst,.assign x,ty,pos,after,g⟩ T S [(x,v)] [] (v) []:=⟨.assign,(.cons hx .nil),.nil⟩
theorem lss(hx:Rd c T x (.prim (.int k i)))(hy:Rd c T y (.prim (.int k j))):Stp c P ⟨dst,.binOp .lss t x y ty2,ty,pos,after,g⟩ T S [(x,.prim (.int k i)),(y,.prim (.int k j))] [] (.prim (.bool (decide (i<j)))) []:=⟨.lss,(.cons hx (.cons hy .nil)),.nil⟩
theorem leq(hx:Rd c T x (.prim (.int k i)))(hy:Rd c T y (.prim (.int k j))):Stp c P ⟨dst,.binOp .leq t x y ty2,ty,pos,after,g⟩ T S [(x,.prim (.int k i)),(y,.prim (.int k j))] [] (.prim (.bool (decide (i<=j)))) []:=⟨.leq,(.cons hx (.cons hy .nil)),.nil⟩
theorem gtr(hx:Rd c T x (.prim (.int k i)))(hy:Rd c T y (.prim (.int k j))):Stp c P ⟨dst,.binOp .gtr t x y ty2,ty,pos,after,g⟩ T S [(x,.prim (.int k i)),(y,.prim (.int k j))] [] (.prim (.bool (decide (j<i)))) []:=⟨.gtr,(.cons hx (.cons hy .nil)),.nil⟩
theorem geq(hx:Rd c T x (.prim (.int k i)))(hy:Rd c T y (.prim (.int k j))):Stp c P ⟨dst,.binOp .geq t x y ty2,ty,pos,after,g⟩ T S [(x,.prim (.int k i)),(y,.prim (.int k j))] [] (.prim (.bool (decide (j<=i)))) []:=⟨.geq,(.cons hx (.cons hy .nil)),.nil⟩
theorem eqI(hx:Rd c T x (.prim (.int k i)))(hy:Rd c T y (.prim (.int k j))):Stp c P ⟨dst,.binOp .eql t x y ty2,ty,pos,after,g⟩ T S [(x,.prim (.int k i)),(y,.prim (.int k j))] [] (.prim (.bool (decide (i=j)))) []:=⟨.eql_int,(.cons hx (.cons hy .nil)),.nil⟩
theorem neI(hx:Rd c T x (.prim (.int k i)))(hy:Rd c T y (.prim (.int k j))):Stp c P ⟨dst,.binOp .neq t x y ty2,ty,pos,after,g⟩ T S [(x,.prim (.int k i)),(y,.prim (.int k j))] [] (.prim (.bool (decide (i≠j)))) []:=⟨.neq_int,(.cons hx (.cons hy .nil)),.nil⟩
theorem eqS{a b:List UInt8}(hx:Rd c T x (.prim (A8 a)))(hy:Rd c T y (.prim (A8 b))):Stp c P ⟨dst,.binOp .eql t x y ty2,ty,pos,after,g⟩ T S [(x,.prim (A8 a)),(y,.prim (A8 b))] [] (.prim (.bool (decide (a=b)))) []:=⟨.eql_str,(.cons hx (.cons hy .nil)),.nil⟩
theorem neS{a b:List UInt8}(hx:Rd c T x (.prim (A8 a)))(hy:Rd c T y (.prim (A8 b))):Stp c P ⟨dst,.binOp .neq t x y ty2,ty,pos,after,g⟩ T S [(x,.prim (A8 a)),(y,.prim (A8 b))] [] (.prim (.bool (decide (a≠b)))) []:=⟨.neq_str,(.cons hx (.cons hy .nil)),.nil⟩
theorem add(hx:Rd c T x (.prim (.int .i64 i)))(hy:Rd c T y (.prim (.int .i64 j)))(h: -9223372036854775808<=i+j/\i+j<=9223372036854775807):Stp c P ⟨dst,.binOp .add t x y ty2,ty,pos,after,g⟩ T S [(x,.prim (.int .i64 i)),(y,.prim (.int .i64 j))] [] (.prim (.int .i64 (i+j))) []:=⟨.add h.1 h.2,(.cons hx (.cons hy .nil)),.nil⟩
theorem sub(hx:Rd c T x (.prim (.int .i64 i)))(hy:Rd c T y (.prim (.int .i64 j)))(h: -9223372036854775808<=i-j/\i-j<=9223372036854775807):Stp c P ⟨dst,.binOp .sub t x y ty2,ty,pos,after,g⟩ T S [(x,.prim (.int .i64 i)),(y,.prim (.int .i64 j))] [] (.prim (.int .i64 (i-j))) []:=⟨.sub h.1 h.2,(.cons hx (.cons hy .nil)),.nil⟩
theorem mul(hx:Rd c T x (.prim (.int .i64 i)))(hy:Rd c T y (.prim (.int .i64 j)))(h: -9223372036854775808<=i*j/\i*j<=9223372036854775807):Stp c P ⟨dst,.binOp .mul t x y ty2,ty,pos,after,g⟩ T S [(x,.prim (.int .i64 i)),(y,.prim (.int .i64 j))] [] (.prim (.int .i64 (i*j))) []:=⟨.mul h.1 h.2,(.cons hx (.cons hy .nil)),.nil⟩
theorem rem(hx:Rd c T x (.prim (.int k i)))(hy:Rd c T y (.prim (.int k j)))(h:j≠0):Stp c P ⟨dst,.binOp .rem t x y ty2,ty,pos,after,g⟩ T S [(x,.prim (.int k i)),(y,.prim (.int k j))] [] (.prim (.int k (i.tmod j))) []:=⟨.rem h,(.cons hx (.cons hy .nil)),.nil⟩
theorem quoW(hx:Rd c T x (.prim (.int k i)))(hy:Rd c T y (.prim (.int k j)))(h:j≠0):Stp c P ⟨dst,.binOp .quo t x y ty2,ty,pos,after,g⟩ T S [(x,.prim (.int k i)),(y,.prim (.int k j))] [] (.prim (.int k (k.wrap (i.tdiv j)))) []:=⟨.quo h,(.cons hx (.cons hy .nil)),.nil⟩
theorem min2{ats:Array TypeId}(hx:Rd c T x (.prim (.int k i)))(hy:Rd c T y (.prim (.int k j))):Stp c P ⟨dst,.call ⟨.builtin .min,#[x,y],ats⟩,ty,pos,after,g⟩ T S [(x,.prim (.int k i)),(y,.prim (.int k j))] [] (.prim (.int k (if j<i then j else i))) []:=⟨.min2,(.cons hx (.cons hy .nil)),.nil⟩
theorem max2{ats:Array TypeId}(hx:Rd c T x (.prim (.int k i)))(hy:Rd c T y (.prim (.int k j))):Stp c P ⟨dst,.call ⟨.builtin .max,#[x,y],ats⟩,ty,pos,after,g⟩ T S [(x,.prim (.int k i)),(y,.prim (.int k j))] [] (.prim (.int k (if i<j then j else i))) []:=⟨.max2,(.cons hx (.cons hy .nil)),.nil⟩
theorem not{b:Bool}(hx:Rd c T x (.prim (.bool b))):Stp c P ⟨dst,.unOp .not t x,ty,pos,after,g⟩ T S [(x,.prim (.bool b))] [] (.prim (.bool !b)) []:=⟨.not,(.cons hx .nil),.nil⟩
theorem pick{b:Bool}{va vb:AV}(hx:Rd c T x (.prim (.bool b)))(hy:Rd c T y (va))(hz:Rd c T z (vb)):Stp c P ⟨dst,.pick x y z,ty,pos,after,g⟩ T S [(x,.prim (.bool b)),(y,va),(z,vb)] [] (II b va vb) []:=⟨.pick,(.cons hx (.cons hy (.cons hz .nil))),.nil⟩
theorem pickP{b:Bool}{u1 u2:Value}(hx:Rd c T x (.prim (.bool b)))(hy:Rd c T y (.prim u1))(hz:Rd c T z (.prim u2)):Stp c P ⟨dst,.pick x y z,ty,pos,after,g⟩ T S [(x,.prim (.bool b)),(y,.prim u1),(z,.prim u2)] [] (.prim (if b then u1 else u2)) []:=⟨.pick_prim,(.cons hx (.cons hy (.cons hz .nil))),.nil⟩
theorem orQ{b d:Bool}(hx:Rd c T x (.prim (.bool b)))(hy:Rd c T y (.prim (.bool true)))(hz:Rd c T z (.opt (b==false) (.prim (.bool d)))):Stp c P ⟨dst,.pick x y z,ty,pos,after,g⟩ T S [(x,.prim (.bool b)),(y,.prim (.bool true)),(z,.opt (b==false) (.prim (.bool d)))] [] (.prim (.bool (b||d))) []:=⟨.or_opt,(.cons hx (.cons hy (.cons hz .nil))),.nil⟩
theorem andQ{b d:Bool}(hx:Rd c T x (.prim (.bool b)))(hy:Rd c T y (.opt (b==true) (.prim (.bool d))))(hz:Rd c T z (.prim (.bool false))):Stp c P ⟨dst,.pick x y z,ty,pos,after,g⟩ T S [(x,.prim (.bool b)),(y,.opt (b==true) (.prim (.bool d))),(z,.prim (.bool false))] [] (.prim (.bool (b&&d))) []:=⟨.and_opt,(.cons hx (.cons hy (.cons hz .nil))),.nil⟩
theorem extract{as:List AV}{m:Nat}(hx:Rd c T x (.tup as))(h:as[m]?=some v):Stp c P ⟨dst,.extract x m,ty,pos,after,g⟩ T S [(x,.tup as)] [] (v) []:=⟨.extract h,(.cons hx .nil),.nil⟩
theorem loadF{ag:Bool}[TAg P t ag][TSize P t n](hx:Rd c T x (.fp cs))(h:BT cs 0 n ag=some v):Stp c P ⟨dst,.load t x,ty,pos,after,g⟩ T S [(x,.fp cs)] [] (v) []:=⟨.load_fp TAg.h TSize.h h,(.cons hx .nil),.nil⟩
theorem load{ag:Bool}{a b:Nat}[TAg P t ag][TSize P t n](hx:Rd c T x (.ptr X a b))(hSp:At S p (X,.row t' sz l))(hi:l[a]?=some e)(h:BT e.cells b n ag=some v):Stp c P ⟨dst,.load t x,ty,pos,after,g⟩ T S [(x,.ptr X a b)] [(p,(X,.row t' sz l))] (v) []:=⟨.load TAg.h TSize.h hi h,(.cons hx .nil),(.cons hSp .nil)⟩
theorem store{a b:Nat}[TSize P t n](hx:Rd c T x (.ptr X a b))(hy:Rd c T y (v))(hSp:At S p (X,.row t' sz l))(hi:l[a]?=some e)(h:Cm e b n v=true):Stp c P ⟨dst,.store t x y,ty,pos,after,g⟩ T S [(x,.ptr X a b),(y,v)] [(p,(X,.row t' sz l))] (.dead) [(p,(X,.row t' sz (l.set a (Ar e b v))))]:=⟨.store TSize.h hi h,(.cons hx (.cons hy .nil)),(.cons hSp .nil)⟩
theorem fieldF{f off:Nat}{ft:TypeId}[TFl P t f off ft][TSize P ft (n+1)](hx:Rd c T x (.fp cs))(h:Dw cs=true):Stp c P ⟨dst,.fieldAddr t x f,ty,pos,after,g⟩ T S [(x,.fp cs)] [] (.fp (cs.drop off)) []:=⟨.fieldAddr_fp TFl.h TSize.h h,(.cons hx .nil),.nil⟩
theorem fieldA{f off a b:Nat}{ft:TypeId}[TFl P t f off ft][TSize P ft (n+1)](hx:Rd c T x (.ptr X a b))(hSp:At S p (X,.row t' sz l))(hi:a<l.length):Stp c P ⟨dst,.fieldAddr t x f,ty,pos,after,g⟩ T S [(x,.ptr X a b)] [(p,(X,.row t' sz l))] (.ptr X a (b+off)) []:=⟨.fieldAddr TFl.h TSize.h hi,(.cons hx .nil),(.cons hSp .nil)⟩
theorem field{f off:Nat}{ft:TypeId}{ag:Bool}[TFl P t f off ft][TAg P ft ag][TSize P ft n](hx:Rd c T x (.agg cs))(h:BT cs off n ag=some v):Stp c P ⟨dst,.field t x f,ty,pos,after,g⟩ T S [(x,.agg cs)] [] (v) []:=⟨.field TFl.h TAg.h TSize.h h,(.cons hx .nil),.nil⟩
theorem idx{off m a b:Nat}[TEl P t te][TSize P te sz](hx:Rd c T x (.sl X off m))(hy:Rd c T y (.prim (.int k i)))(hSp:At S p (X,.row t' sz l))(hq:i=(a:Int))(ha:a<m)(hb:off+a=b):Stp c P ⟨dst,.indexAddr t x y,ty,pos,after,g⟩ T S [(x,.sl X off m),(y,.prim (.int k i))] [(p,(X,.row t' sz l))] (.ptr X b 0) []:=⟨.indexAddr TEl.h TSize.h hq ha hb,(.cons hx (.cons hy .nil)),(.cons hSp .nil)⟩
theorem idxL{a:Nat}[TEl P t te][TSize P te sz](hx:Rd c T x (.lst false t' sz l))(hy:Rd c T y (.prim (.int k i)))(hq:i=(a:Int))(hi:l[a]?=some e):Stp c P ⟨dst,.indexAddr t x y,ty,pos,after,g⟩ T S [(x,.lst false t' sz l),(y,.prim (.int k i))] [] (.fp e.cells) []:=⟨.indexAddr_lst TEl.h TSize.h hq hi,(.cons hx (.cons hy .nil)),.nil⟩
theorem lenS{off m:Nat}[TEl P t te](hx:Rd c T x (.sl X off m)):Stp c P ⟨dst,.call ⟨.builtin .len,#[x],#[t]⟩,ty,pos,after,g⟩ T S [(x,.sl X off m)] [] (.prim (.int .i64 (m:Int))) []:=⟨.len_sl TEl.h,(.cons hx .nil),.nil⟩
theorem lenL[TEl P t te](hx:Rd c T x (.lst false t' sz l)):Stp c P ⟨dst,.call ⟨.builtin .len,#[x],#[t]⟩,ty,pos,after,g⟩ T S [(x,.lst false t' sz l)] [] (.prim (.int .i64 (l.length:Int))) []:=⟨.len_lst (o:=false) TEl.h,(.cons hx .nil),.nil⟩
theorem lenN[TEl P t te](hx:Rd c T x (.prim (.slice none 0 0))):Stp c P ⟨dst,.call ⟨.builtin .len,#[x],#[t]⟩,ty,pos,after,g⟩ T S [(x,.prim (.slice none 0 0))] [] (.prim (.int .i64 0)) []:=⟨.len_nil TEl.h,(.cons hx .nil),.nil⟩
theorem lenStr{s:List UInt8}[TSg P t](hx:Rd c T x (.prim (A8 s))):Stp c P ⟨dst,.call ⟨.builtin .len,#[x],#[t]⟩,ty,pos,after,g⟩ T S [(x,.prim (A8 s))] [] (.prim (.int .i64 (s.length:Int))) []:=⟨.len_str TSg.h,(.cons hx .nil),.nil⟩
theorem idxStr{s:List UInt8}{a:Nat}[TSg P t](hx:Rd c T x (.prim (A8 s)))(hy:Rd c T y (.prim (.int k i)))(hq:i=(a:Int))(hi:a<s.length):Stp c P ⟨dst,.index t x y,ty,pos,after,g⟩ T S [(x,.prim (A8 s)),(y,.prim (.int k i))] [] (.prim (.int .u8 ((s.getD a 0).toNat:Int))) []:=⟨.index_strD TSg.h hq hi,(.cons hx (.cons hy .nil)),.nil⟩
theorem nilF(hx:Rd c T x (.fp cs)):Stp c P ⟨dst,.nilCheck x,ty,pos,after,g⟩ T S [(x,.fp cs)] [] (.fp cs) []:=⟨.nilCheck_fp,(.cons hx .nil),.nil⟩
theorem nilA{a b:Nat}(hx:Rd c T x (.ptr X a b))(hSp:At S p (X,.row t' sz l))(hi:a<l.length):Stp c P ⟨dst,.nilCheck x,ty,pos,after,g⟩ T S [(x,.ptr X a b)] [(p,(X,.row t' sz l))] (.ptr X a b) []:=⟨.nilCheck hi,(.cons hx .nil),(.cons hSp .nil)⟩
theorem hi{off m a:Nat}[TEl P t te][TSize P te sz](hx:Rd c T x (.sl X off m))(hy:Rd c T y (.prim (.int k i)))(hSp:At S p (X,.row t' sz l))(hq:i=(a:Int))(ha:a<=m):Stp c P ⟨dst,.slice t x none (some y) none,ty,pos,after,g⟩ T S [(x,.sl X off m),(y,.prim (.int k i))] [(p,(X,.row t' sz l))] (.sl X off a) []:=⟨.slice_hi TEl.h TSize.h hq ha,(.cons hx (.cons hy .nil)),(.cons hSp .nil)⟩
theorem box(hx:Rd c T x (v))(hSp:At S p (X,.gone))(hs:v.stor=true):Stp c P ⟨dst,.box t x,ty,pos,after,g⟩ T S [(x,v)] [(p,(X,.gone))] (.ptr X 0 0) [(p,(X,.row t v.width [v]))]:=⟨.box hs,(.cons hx .nil),(.cons hSp .nil)⟩
theorem alloc{zl:List Value}{ag:Bool}[TZe P t zl][TAg P t ag](hSp:At S p (X,.gone))(h:ag=true\/zl.length=1):Stp c P ⟨dst,.alloc t,ty,pos,after,g⟩ T S [] [(p,(X,.gone))] (.ptr X 0 0) [(p,(X,.row t zl.length [zAV zl ag]))]:=⟨.alloc TZe.h h,.nil,(.cons hSp .nil)⟩
theorem app{m by_:Nat}[TRo P t te sz by_](hx:Rd c T x (.sl X 0 m))(hy:Rd c T y (.lst false t' sz ls))(hSq:At S q (Y,.gone))(hSp:At S p (X,.row te sz l))(hn:m=l.length)(hb:(l.length+ls.length)*by_<=140737488355328)(hm:l.length+ls.length<=maxLen)(hqp:q≠p):Stp c P ⟨dst,.call ⟨.builtin .append,#[x,y],#[t,t]⟩,ty,pos,after,g⟩ T S [(x,.sl X 0 m),(y,.lst false t' sz ls)] [(q,(Y,.gone)),(p,(X,.row te sz l))] (.sl Y 0 (m+ls.length)) [(q,(X,.used)),(p,(Y,.row te sz (l++ls)))]:=⟨.append_lst TRo.h hn hb hm hqp,(.cons hx (.cons hy .nil)),(.cons hSq (.cons hSp .nil))⟩
theorem make{k':IntKind}{zl:List Value}{ag:Bool}{m d by_:Nat}[TEl P t te][TZe P te zl][TSize P te sz][TAg P te ag][TBy P te by_](hx:Rd c T x (.prim (.int k i)))(hy:Rd c T y (.prim (.int k' j)))(hSp:At S p (X,.gone))(hzs:zl.length=sz)(hag:ag=true\/zl.length=1)(hq:i=(m:Int))(hq':j=(d:Int))(hnc:m<=d)(hb:by_*d<=281474976710656)(hc:d<=maxLen):Stp c P ⟨dst,.makeSlice t x y,ty,pos,after,g⟩ T S [(x,.prim (.int k i)),(y,.prim (.int k' j))] [(p,(X,.gone))] (.sl X 0 m) [(p,(X,.row te sz (List.replicate m (zAV zl ag))))]:=⟨.makeSlice TEl.h TZe.h TSize.h hzs hag TBy.h hq hq' hnc hb hc,(.cons hx (.cons hy .nil)),(.cons hSp .nil)⟩
theorem build0{zl:List Value}{pl:List (Nat×Nat)}[TSt P t zl pl](hf:Bf pl (zl.map .prim) []=some cs):Stp c P ⟨dst,.build t #[],ty,pos,after,g⟩ T S [] [] (.agg cs) []:=⟨.build (ps:=[]) TSt.h hf,.nil,.nil⟩
theorem IH{x0:Operand}{v0:AV}{f:FuncId}{ats:Array TypeId}{r:AV}(h0:Rd c T x0 v0)(h:PS P f [v0] r)(ht:AS [(x0,v0)]=true):Stp c P ⟨dst,.call ⟨.value (.func f),#[x0],ats⟩,ty,pos,after,g⟩ T S [(x0,v0)] [] r.frz []:=⟨.call (xs:=[(x0,v0)]) h ht,(.cons h0 .nil),.nil⟩
theorem callF1{x0:Operand}{v0:AV}{f:FuncId}{ats:Array TypeId}{r r':AV}(h0:Rd c T x0 v0)(h:PS P f [v0] r)(ht:AS [(x0,v0)]=true)(hf:r.frz=r'):Stp c P ⟨dst,.call ⟨.value (.func f),#[x0],ats⟩,ty,pos,after,g⟩ T S [(x0,v0)] [] r' []:=hf▸IH h0 h ht
theorem build1{x0:Operand}{v0:AV}{j0:Nat}{zl:List Value}{pl:List (Nat×Nat)}[TSt P t zl pl](h0:Rd c T x0 v0)(hf:Bf pl (zl.map .prim) [(j0,v0)]=some cs):Stp c P ⟨dst,.build t #[(j0,x0)],ty,pos,after,g⟩ T S [(x0,v0)] [] (.agg cs) []:=⟨.build (ps:=[(j0,x0,v0)]) TSt.h hf,(.cons h0 .nil),.nil⟩
theorem func1{x0:Operand}{v0:AV}{f:FuncId}(h0:Rd c T x0 v0)(hs:B5 [v0]=true):Stp c P ⟨dst,.makeFunc (.func f) #[] #[x0],ty,pos,after,g⟩ T S [(x0,v0)] [] (.fn f [v0]) []:=⟨.makeFunc (xs:=[(x0,v0)]) hs,(.cons h0 .nil),.nil⟩
theorem IG{x0 x1:Operand}{v0 v1:AV}{f:FuncId}{ats:Array TypeId}{r:AV}(h0:Rd c T x0 v0)(h1:Rd c T x1 v1)(h:PS P f [v0,v1] r)(ht:AS [(x0,v0),(x1,v1)]=true):Stp c P ⟨dst,.call ⟨.value (.func f),#[x0,x1],ats⟩,ty,pos,after,g⟩ T S [(x0,v0),(x1,v1)] [] r.frz []:=⟨.call (xs:=[(x0,v0),(x1,v1)]) h ht,(.cons h0 (.cons h1 .nil)),.nil⟩
theorem callF2{x0 x1:Operand}{v0 v1:AV}{f:FuncId}{ats:Array TypeId}{r r':AV}(h0:Rd c T x0 v0)(h1:Rd c T x1 v1)(h:PS P f [v0,v1] r)(ht:AS [(x0,v0),(x1,v1)]=true)(hf:r.frz=r'):Stp c P ⟨dst,.call ⟨.value (.func f),#[x0,x1],ats⟩,ty,pos,after,g⟩ T S [(x0,v0),(x1,v1)] [] r' []:=hf▸IG h0 h1 h ht
theorem build2{x0 x1:Operand}{v0 v1:AV}{j0 j1:Nat}{zl:List Value}{pl:List (Nat×Nat)}[TSt P t zl pl](h0:Rd c T x0 v0)(h1:Rd c T x1 v1)(hf:Bf pl (zl.map .prim) [(j0,v0),(j1,v1)]=some cs):Stp c P ⟨dst,.build t #[(j0,x0),(j1,x1)],ty,pos,after,g⟩ T S [(x0,v0),(x1,v1)] [] (.agg cs) []:=⟨.build (ps:=[(j0,x0,v0),(j1,x1,v1)]) TSt.h hf,(.cons h0 (.cons h1 .nil)),.nil⟩
theorem func2{x0 x1:Operand}{v0 v1:AV}{f:FuncId}(h0:Rd c T x0 v0)(h1:Rd c T x1 v1)(hs:B5 [v0,v1]=true):Stp c P ⟨dst,.makeFunc (.func f) #[] #[x0,x1],ty,pos,after,g⟩ T S [(x0,v0),(x1,v1)] [] (.fn f [v0,v1]) []:=⟨.makeFunc (xs:=[(x0,v0),(x1,v1)]) hs,(.cons h0 (.cons h1 .nil)),.nil⟩
theorem build3{x0 x1 x2:Operand}{v0 v1 v2:AV}{j0 j1 j2:Nat}{zl:List Value}{pl:List (Nat×Nat)}[TSt P t zl pl](h0:Rd c T x0 v0)(h1:Rd c T x1 v1)(h2:Rd c T x2 v2)(hf:Bf pl (zl.map .prim) [(j0,v0),(j1,v1),(j2,v2)]=some cs):Stp c P ⟨dst,.build t #[(j0,x0),(j1,x1),(j2,x2)],ty,pos,after,g⟩ T S [(x0,v0),(x1,v1),(x2,v2)] [] (.agg cs) []:=⟨.build (ps:=[(j0,x0,v0),(j1,x1,v1),(j2,x2,v2)]) TSt.h hf,(.cons h0 (.cons h1 (.cons h2 .nil))),.nil⟩
theorem func3{x0 x1 x2:Operand}{v0 v1 v2:AV}{f:FuncId}(h0:Rd c T x0 v0)(h1:Rd c T x1 v1)(h2:Rd c T x2 v2)(hs:B5 [v0,v1,v2]=true):Stp c P ⟨dst,.makeFunc (.func f) #[] #[x0,x1,x2],ty,pos,after,g⟩ T S [(x0,v0),(x1,v1),(x2,v2)] [] (.fn f [v0,v1,v2]) []:=⟨.makeFunc (xs:=[(x0,v0),(x1,v1),(x2,v2)]) hs,(.cons h0 (.cons h1 (.cons h2 .nil))),.nil⟩
theorem build4{x0 x1 x2 x3:Operand}{v0 v1 v2 v3:AV}{j0 j1 j2 j3:Nat}{zl:List Value}{pl:List (Nat×Nat)}[TSt P t zl pl](h0:Rd c T x0 v0)(h1:Rd c T x1 v1)(h2:Rd c T x2 v2)(h3:Rd c T x3 v3)(hf:Bf pl (zl.map .prim) [(j0,v0),(j1,v1),(j2,v2),(j3,v3)]=some cs):Stp c P ⟨dst,.build t #[(j0,x0),(j1,x1),(j2,x2),(j3,x3)],ty,pos,after,g⟩ T S [(x0,v0),(x1,v1),(x2,v2),(x3,v3)] [] (.agg cs) []:=⟨.build (ps:=[(j0,x0,v0),(j1,x1,v1),(j2,x2,v2),(j3,x3,v3)]) TSt.h hf,(.cons h0 (.cons h1 (.cons h2 (.cons h3 .nil)))),.nil⟩
theorem func4{x0 x1 x2 x3:Operand}{v0 v1 v2 v3:AV}{f:FuncId}(h0:Rd c T x0 v0)(h1:Rd c T x1 v1)(h2:Rd c T x2 v2)(h3:Rd c T x3 v3)(hs:B5 [v0,v1,v2,v3]=true):Stp c P ⟨dst,.makeFunc (.func f) #[] #[x0,x1,x2,x3],ty,pos,after,g⟩ T S [(x0,v0),(x1,v1),(x2,v2),(x3,v3)] [] (.fn f [v0,v1,v2,v3]) []:=⟨.makeFunc (xs:=[(x0,v0),(x1,v1),(x2,v2),(x3,v3)]) hs,(.cons h0 (.cons h1 (.cons h2 (.cons h3 .nil)))),.nil⟩
theorem build5{x0 x1 x2 x3 x4:Operand}{v0 v1 v2 v3 v4:AV}{j0 j1 j2 j3 j4:Nat}{zl:List Value}{pl:List (Nat×Nat)}[TSt P t zl pl](h0:Rd c T x0 v0)(h1:Rd c T x1 v1)(h2:Rd c T x2 v2)(h3:Rd c T x3 v3)(h4:Rd c T x4 v4)(hf:Bf pl (zl.map .prim) [(j0,v0),(j1,v1),(j2,v2),(j3,v3),(j4,v4)]=some cs):Stp c P ⟨dst,.build t #[(j0,x0),(j1,x1),(j2,x2),(j3,x3),(j4,x4)],ty,pos,after,g⟩ T S [(x0,v0),(x1,v1),(x2,v2),(x3,v3),(x4,v4)] [] (.agg cs) []:=⟨.build (ps:=[(j0,x0,v0),(j1,x1,v1),(j2,x2,v2),(j3,x3,v3),(j4,x4,v4)]) TSt.h hf,(.cons h0 (.cons h1 (.cons h2 (.cons h3 (.cons h4 .nil))))),.nil⟩
theorem func5{x0 x1 x2 x3 x4:Operand}{v0 v1 v2 v3 v4:AV}{f:FuncId}(h0:Rd c T x0 v0)(h1:Rd c T x1 v1)(h2:Rd c T x2 v2)(h3:Rd c T x3 v3)(h4:Rd c T x4 v4)(hs:B5 [v0,v1,v2,v3,v4]=true):Stp c P ⟨dst,.makeFunc (.func f) #[] #[x0,x1,x2,x3,x4],ty,pos,after,g⟩ T S [(x0,v0),(x1,v1),(x2,v2),(x3,v3),(x4,v4)] [] (.fn f [v0,v1,v2,v3,v4]) []:=⟨.makeFunc (xs:=[(x0,v0),(x1,v1),(x2,v2),(x3,v3),(x4,v4)]) hs,(.cons h0 (.cons h1 (.cons h2 (.cons h3 (.cons h4 .nil))))),.nil⟩
theorem build6{x0 x1 x2 x3 x4 x5:Operand}{v0 v1 v2 v3 v4 v5:AV}{j0 j1 j2 j3 j4 j5:Nat}{zl:List Value}{pl:List (Nat×Nat)}[TSt P t zl pl](h0:Rd c T x0 v0)(h1:Rd c T x1 v1)(h2:Rd c T x2 v2)(h3:Rd c T x3 v3)(h4:Rd c T x4 v4)(h5:Rd c T x5 v5)(hf:Bf pl (zl.map .prim) [(j0,v0),(j1,v1),(j2,v2),(j3,v3),(j4,v4),(j5,v5)]=some cs):Stp c P ⟨dst,.build t #[(j0,x0),(j1,x1),(j2,x2),(j3,x3),(j4,x4),(j5,x5)],ty,pos,after,g⟩ T S [(x0,v0),(x1,v1),(x2,v2),(x3,v3),(x4,v4),(x5,v5)] [] (.agg cs) []:=⟨.build (ps:=[(j0,x0,v0),(j1,x1,v1),(j2,x2,v2),(j3,x3,v3),(j4,x4,v4),(j5,x5,v5)]) TSt.h hf,(.cons h0 (.cons h1 (.cons h2 (.cons h3 (.cons h4 (.cons h5 .nil)))))),.nil⟩
theorem func6{x0 x1 x2 x3 x4 x5:Operand}{v0 v1 v2 v3 v4 v5:AV}{f:FuncId}(h0:Rd c T x0 v0)(h1:Rd c T x1 v1)(h2:Rd c T x2 v2)(h3:Rd c T x3 v3)(h4:Rd c T x4 v4)(h5:Rd c T x5 v5)(hs:B5 [v0,v1,v2,v3,v4,v5]=true):Stp c P ⟨dst,.makeFunc (.func f) #[] #[x0,x1,x2,x3,x4,x5],ty,pos,after,g⟩ T S [(x0,v0),(x1,v1),(x2,v2),(x3,v3),(x4,v4),(x5,v5)] [] (.fn f [v0,v1,v2,v3,v4,v5]) []:=⟨.makeFunc (xs:=[(x0,v0),(x1,v1),(x2,v2),(x3,v3),(x4,v4),(x5,v5)]) hs,(.cons h0 (.cons h1 (.cons h2 (.cons h3 (.cons h4 (.cons h5 .nil)))))),.nil⟩
theorem build7{x0 x1 x2 x3 x4 x5 x6:Operand}{v0 v1 v2 v3 v4 v5 v6:AV}{j0 j1 j2 j3 j4 j5 j6:Nat}{zl:List Value}{pl:List (Nat×Nat)}[TSt P t zl pl](h0:Rd c T x0 v0)(h1:Rd c T x1 v1)(h2:Rd c T x2 v2)(h3:Rd c T x3 v3)(h4:Rd c T x4 v4)(h5:Rd c T x5 v5)(h6:Rd c T x6 v6)(hf:Bf pl (zl.map .prim) [(j0,v0),(j1,v1),(j2,v2),(j3,v3),(j4,v4),(j5,v5),(j6,v6)]=some cs):Stp c P ⟨dst,.build t #[(j0,x0),(j1,x1),(j2,x2),(j3,x3),(j4,x4),(j5,x5),(j6,x6)],ty,pos,after,g⟩ T S [(x0,v0),(x1,v1),(x2,v2),(x3,v3),(x4,v4),(x5,v5),(x6,v6)] [] (.agg cs) []:=⟨.build (ps:=[(j0,x0,v0),(j1,x1,v1),(j2,x2,v2),(j3,x3,v3),(j4,x4,v4),(j5,x5,v5),(j6,x6,v6)]) TSt.h hf,(.cons h0 (.cons h1 (.cons h2 (.cons h3 (.cons h4 (.cons h5 (.cons h6 .nil))))))),.nil⟩
theorem func7{x0 x1 x2 x3 x4 x5 x6:Operand}{v0 v1 v2 v3 v4 v5 v6:AV}{f:FuncId}(h0:Rd c T x0 v0)(h1:Rd c T x1 v1)(h2:Rd c T x2 v2)(h3:Rd c T x3 v3)(h4:Rd c T x4 v4)(h5:Rd c T x5 v5)(h6:Rd c T x6 v6)(hs:B5 [v0,v1,v2,v3,v4,v5,v6]=true):Stp c P ⟨dst,.makeFunc (.func f) #[] #[x0,x1,x2,x3,x4,x5,x6],ty,pos,after,g⟩ T S [(x0,v0),(x1,v1),(x2,v2),(x3,v3),(x4,v4),(x5,v5),(x6,v6)] [] (.fn f [v0,v1,v2,v3,v4,v5,v6]) []:=⟨.makeFunc (xs:=[(x0,v0),(x1,v1),(x2,v2),(x3,v3),(x4,v4),(x5,v5),(x6,v6)]) hs,(.cons h0 (.cons h1 (.cons h2 (.cons h3 (.cons h4 (.cons h5 (.cons h6 .nil))))))),.nil⟩
end W
end
end
section
theorem En{Zr:Zs}{z':AA×List Nat}:∀{S:List AA} {p:Nat} {e:AA},S[p]?=some e->Zr.map (·.1)=S.eraseIdx p->∃Z2:Zs,Z2.Perm (z'::Zr)/\Z2.map (·.1)=S.set p z'.1
 |[],p,e,h,_=>by simp at h
 |a::S,0,e,h,hm=>⟨z'::Zr,.refl _,by simpa using hm⟩
 |a::S,p+1,e,h,hm=>by
  simp only[List.eraseIdx_cons_succ]at hm;cases Zr with
  |nil=>simp at hm
  |cons zr Zr=>
   simp only[List.map_cons,List.cons.injEq]at hm;obtain⟨Z0,h1,h2⟩:=En (Zr:=Zr) (z':=z') (S:=S) (p:=p) (e:=e) (by simpa using h) hm.2;exact⟨zr::Z0,(h1.cons zr).trans (List.Perm.swap ..),by simp[h2,hm.1]⟩
section
variable {P:Program}{dst:Option Tmp}{f:FuncId}{xs:List (Operand×AV)}{ats:Array TypeId}{ty:TypeId}{pos:String}{after:Array Edge}{g:Option (Nat×Bool)}{X p:Nat}{o o':AO}{r:AV}
def PO(P:Program)(f:FuncId)(args:List AV)(X:Nat)(o:AO)(r:AV)(o':AO):Prop:=Spec P f args [(X,o)] λr' S'=>r'=r/\S'=[(X,o')]
theorem EC(h:PO P f (xs.map (·.2)) X o r o')(ht:AS xs=true:=by rfl):OpT P ⟨dst,.call ⟨.value (.func f),(xs.map (·.1)).toArray,ats⟩,ty,pos,after,g⟩ xs [(p,(X,o))] r.frz [(p,(X,o'))]:=by
 intro nt m0 T S a w hx hS hd hr;obtain⟨m,N,Z,rfl,h2,h3,h4⟩:=hr;have h2':Z.map (·.1)=S:=h2;have hSp:=hS (p,(X,o)) (by simp);simp only at hSp;have hSp2:=hSp;rw[<-h2',List.getElem?_map]at hSp2;cases hz:Z[p]? with
 |none=>rw[hz]at hSp2;cases hSp2
 |some z=>
  rw[hz]at hSp2;simp only[Option.map_some,Option.some.injEq]at hSp2;have G1:=h3.perm (Bt hz);refine CI (λ_=>rfl) h.fn ?_;refine(h.run (S.eraseIdx p) m N (z::Z.eraseIdx p) _ (by simp[hSp2,C1,h2']) G1.self (by have:=B7 (A1 ht) λq hq=>h4.ev (hx q hq);simpa[Function.comp_def]using this)).mono ?_;rintro e w' ⟨v,r',S',m',N',Z',br,rfl,rfl,hm,G',hv,rfl,rfl⟩;obtain⟨G2,hle⟩:=Good.freeze (ex:=br) (ex':=[]) (by simpa using h3.after G') _ rfl;cases Z' with
  |nil=>simp at hm
  |cons z' Zr=>
   simp only[List.map_cons,List.cons_append,List.nil_append,List.cons.injEq]at hm;obtain⟨Z2,h5,h6⟩:=En (z':=z') hSp hm.2;refine⟨v,rfl,{m' with F:=λb=>m'.F b\/b∈br},N',Z2,rfl,?_,G2.perm h5.symm,((h4.mono G'.le).mono hle).put hd (VV.frz hle (λb hb=>⟨.inr hb,rfl⟩) hv)⟩;simp only[AF];rw[h6,hm.1]
end
namespace W
variable {P:Program}{dst:Option Tmp}{ty:TypeId}{pos:String}{after:Array Edge}{g:Option (Nat×Bool)}{T:List (Nat×AV)}{S:List AA}{c:Option (List Bool)}{X p:Nat}{o o':AO}{r r':AV}{f:FuncId}{ats:Array TypeId}
theorem callO3{x0 x1 x2:Operand}{v0 v1 v2:AV}(h0:Rd c T x0 v0)(h1:Rd c T x1 v1)(h2:Rd c T x2 v2)(hSp:At S p (X,o))(h:PO P f [v0,v1,v2] X o r o')(ht:AS [(x0,v0),(x1,v1),(x2,v2)]=true)(hf:r.frz=r'):Stp c P ⟨dst,.call ⟨.value (.func f),#[x0,x1,x2],ats⟩,ty,pos,after,g⟩ T S [(x0,v0),(x1,v1),(x2,v2)] [(p,(X,o))] r' [(p,(X,o'))]:=⟨hf▸EC (xs:=[(x0,v0),(x1,v1),(x2,v2)]) h ht,(.cons h0 (.cons h1 (.cons h2 .nil))),.cons hSp .nil⟩
theorem callO4{x0 x1 x2 x3:Operand}{v0 v1 v2 v3:AV}(h0:Rd c T x0 v0)(h1:Rd c T x1 v1)(h2:Rd c T x2 v2)(h3:Rd c T x3 v3)(hSp:At S p (X,o))(h:PO P f [v0,v1,v2,v3] X o r o')(ht:AS [(x0,v0),(x1,v1),(x2,v2),(x3,v3)]=true)(hf:r.frz=r'):Stp c P ⟨dst,.call ⟨.value (.func f),#[x0,x1,x2,x3],ats⟩,ty,pos,after,g⟩ T S [(x0,v0),(x1,v1),(x2,v2),(x3,v3)] [(p,(X,o))] r' [(p,(X,o'))]:=⟨hf▸EC (xs:=[(x0,v0),(x1,v1),(x2,v2),(x3,v3)]) h ht,(.cons h0 (.cons h1 (.cons h2 (.cons h3 .nil)))),.cons hSp .nil⟩
end W
end
section
variable {ro:Option Nat}
mutual
inductive Ic(B:AV->AV->Prop):AV->AV->Prop
 |same {a:AV}:Ic B a a
 |base {a b:AV} (h:B a b):Ic B a b
 |agg {as bs:List AV} (h:Ics B as bs):Ic B (.agg as) (.agg bs)
inductive Ics(B:AV->AV->Prop):List AV->List AV->Prop
 |nil:Ics B [] []
 |cons {a b:AV} {as bs:List AV} (h:Ic B a b) (k:Ics B as bs):Ics B (a::as) (b::bs)
end
inductive IceB(X:Nat)(t:TypeId)(sz:Nat)(l:List AV):AV->AV->Prop
 |sl {off n:Nat} (h:off+n<=l.length):IceB X t sz l (.sl X off n) (.lst false t sz (AV.frzs ((l.drop off).take n)))
inductive AdB(X:Nat):AV->AV->Prop
 |nil:AdB X (.prim (.slice none 0 0)) (.sl X 0 0)
section
variable {X:Nat}{t:TypeId}{sz:Nat}{l:List AV}{m m':Mem}{B:AV->AV->Prop}
def Wd1(B:AV->AV->Prop):Prop:=∀a b,B a b->b.width=a.width
def Vc1(B:AV->AV->Prop)(m m':Mem):Prop:=∀a b,B a b->∀c bs,VC m a c bs->VC m' b c bs
theorem IceB.wd1:Wd1 (IceB X t sz l):=λa b h=>by cases h;rfl
theorem AdB.wd1:Wd1 (AdB X):=λa b h=>by cases h;rfl
theorem IceB.vc1(hv:∀off n c,off+n<=l.length->VC m (.sl X off n) c []->VC m' (.lst false t sz (AV.frzs ((l.drop off).take n))) c []):Vc1 (IceB X t sz l) m m':=λa b h c bs k=>by
 cases h with
 |sl h=>
  obtain rfl:=k.1;exact hv _ _ _ h k
theorem AdB.vc1(hv:VC m' (.sl X 0 0) [.slice none 0 0] []):Vc1 (AdB X) m m':=λa b h c bs k=>by
 cases h with
 |nil=>
  obtain⟨⟨rfl,_⟩,rfl⟩:=k;exact hv
mutual
theorem Ic.width(hB:Wd1 B):{a b:AV}->Ic B a b->b.width=a.width
 |_,_,.same=>rfl
 |_,_,.base h=>hB _ _ h
 |_,_,.agg h=>Ics.widths hB h
theorem Ics.widths(hB:Wd1 B):{a b:List AV}->Ics B a b->AV.widths b=AV.widths a
 |_,_,.nil=>rfl
 |_,_,.cons h k=>by simp only[AV.widths,Ic.width hB h,Ics.widths hB k]
end
mutual
theorem Ic.vc(hle:m.Le m')(hB:Vc1 B m m')(hw:m'.w=m.w):{a b:AV}->Ic B a b->{c:List Value}->{bs:List Nat}->VC m a c bs->VC m' b c bs
 |a,_,.same,_,_,k=>VC.mono hle a (λ_ _=>by rw[hw]) k
 |_,_,.base h,_,_,k=>hB _ _ h _ _ k
 |_,_,.agg h,_,_,k=>Ics.vcs hle hB hw h k
theorem Ics.vcs(hle:m.Le m')(hB:Vc1 B m m')(hw:m'.w=m.w):{a b:List AV}->Ics B a b->{c:List Value}->{bs:List Nat}->VCs m a c bs->VCs m' b c bs
 |_,_,.nil,_,_,k=>k
 |_,_,.cons h k,_,_,⟨c1,c2,b1,b2,e1,e2,k1,k2⟩=>⟨c1,c2,b1,b2,e1,e2,Ic.vc hle hB hw h k1,Ics.vcs hle hB hw k k2⟩
end
theorem Ics.len{a b:List AV}(h:Ics B a b):b.length=a.length:=by
 induction a generalizing b with
 |nil=>cases h;rfl
 |cons x a ih=>cases h with|cons h k=>simp[ih k]
theorem Ics.wd(hB:Wd1 B){a b:List AV}{n:Nat}(h:Ics B a b)(hw:∀e∈a,e.width=n):∀e∈b,e.width=n:=by
 induction a generalizing b with
 |nil=>cases h;intro e he;cases he
 |cons x a ih=>
  cases h with
  |cons h k=>
   intro e he;rcases List.mem_cons.1 he with rfl|he
   ·rw[h.width hB];exact hw x (by simp)
   ·exact ih k (λe he=>hw e (by simp[he])) e he
theorem Ics.orel{Y:Nat}{t2:TypeId}{sz2:Nat}{l2 l2':List AV}{bs:List Nat}(hI:Ics B l2 l2')(hle:m.Le m')(hμ:∀L,m.μ Y=some L->m'.μ Y=some L)(hBw:Wd1 B)(hB:Vc1 B m m')(hw:m'.w=m.w)(h:ORel m Y (.row t2 sz2 l2) bs):ORel m' Y (.row t2 sz2 l2') bs:=by
 obtain⟨hU,L,h1,h2,h3⟩:=h;refine⟨hle.U _ hU,L,hμ L h1,h2,?_⟩;rcases h3 with⟨h4,rfl,h5⟩|⟨h4,arr,bs',h5,h6,h7,h8,h9,h10,h11⟩
 ·cases hI;exact .inl ⟨h4,rfl,h5⟩
 ·refine .inr ⟨h4,arr,bs',h5,by rw[hw];exact h6,h7,by rw[hI.len];exact h8,h9,hI.wd hBw h10,?_⟩
  rw[hI.len];exact Ics.vcs hle hB hw hI h11
theorem Dt{m0:Mem}{N:Nat}{ex bs:List Nat}{A R:Zs}{Y:Nat}{o o':AO}(G:Good m0 m N (A++((Y,o),bs)::R) ex)(h:ORel m Y o' bs):Good m0 m N (A++((Y,o'),bs)::R) ex:=by
 have e1:Zs.own (A++((Y,o'),bs)::R)=Zs.own (A++((Y,o),bs)::R):=by simp[Zs.own]
 have e2:Zs.keys (A++((Y,o'),bs)::R)=Zs.keys (A++((Y,o),bs)::R):=by simp[Zs.keys]
 refine⟨λz hz=>?_,by rw[e1];exact G.own,by rw[e1];exact G.blk,G.frz,by rw[e2];exact G.keys,by rw[e2];exact G.keyN,G.usedN,G.le,G.os,G.tape,G.output,G.size⟩;rcases List.mem_append.1 hz with hz|hz
 ·exact G.obj z (by simp[hz])
 ·rcases List.mem_cons.1 hz with rfl|hz
  ·exact h
  ·exact G.obj z (by simp[hz])
theorem St.iceIn{nt:Nat}{st:St}{p q Y:Nat}{t2:TypeId}{sz2:Nat}{l2 l2':List AV}(hpq:p≠q)(hS:At st.S p (X,.row t sz l))(hq:At st.S q (Y,.row t2 sz2 l2))(hI:Ics (IceB X t sz l) l2 l2'):DG nt st λst'=>st'=⟨st.T,(st.S.set p (X,.used)).set q (Y,.row t2 sz2 l2')⟩:=by
 rintro m0 a w ⟨m,N,Z,rfl,h2,h3,h4⟩;obtain⟨bs,hz⟩:=hS.z h2;obtain⟨bs2,hz2⟩:=hq.z h2;obtain⟨R,hp1,hp2⟩:=D3 hpq hz hz2;have G0:=h3.perm hp1;obtain⟨m',hw,G',hle,hv,_⟩:=G0.iced;have hY:ORel m Y (.row t2 sz2 l2) bs2:=G0.obj ((Y,.row t2 sz2 l2),bs2) (by simp);have hY':ORel m' Y (.row t2 sz2 l2) bs2:=G'.obj ((Y,.row t2 sz2 l2),bs2) (by simp)
 have hμ:∀L,m.μ Y=some L->m'.μ Y=some L:=by
  intro L hL;obtain⟨_,L',h5,_⟩:=hY';have:=hle.μ Y L' hY.1 h5;rw[hL]at this;injection this with this
  rw[this];exact h5
 have G2:=Dt (A:=[((X,AO.used),[])]) G' (hI.orel hle hμ IceB.wd1 (IceB.vc1 hv) hw hY);exact⟨⟨st.T,(st.S.set p (X,.used)).set q (Y,.row t2 sz2 l2')⟩,⟨m',N,(Z.set p ((X,.used),[])).set q ((Y,.row t2 sz2 l2'),bs2),hw,by rw[List.map_set,List.map_set,h2],G2.perm (hp2 _ _).symm,h4.mono hle⟩,rfl⟩
theorem St.adoptIn{nt:Nat}{st:St}{q Y:Nat}{t2:TypeId}{sz2:Nat}{l2:List AV}{l2':Nat->List AV}(t:TypeId)(sz:Nat)(hq:At st.S q (Y,.row t2 sz2 l2))(hI:∀X,Ics (AdB X) l2 (l2' X)):DG nt st λst'=>∃X,st'=⟨st.T,(X,.row t sz [])::st.S.set q (Y,.row t2 sz2 (l2' X))⟩:=by
 rintro m0 a w ⟨m,N,Z,rfl,h2,h3,h4⟩;obtain⟨bs2,hz2⟩:=hq.z h2;obtain⟨R,hp1,hp2⟩:=Ab hz2;have G0:=h3.perm hp1;obtain⟨m',hw,G',hle,hv⟩:=G0.adopt t sz;have hY:ORel m Y (.row t2 sz2 l2) bs2:=G0.obj ((Y,.row t2 sz2 l2),bs2) (by simp);have hY':ORel m' Y (.row t2 sz2 l2) bs2:=G'.obj ((Y,.row t2 sz2 l2),bs2) (by simp)
 have hμ:∀L,m.μ Y=some L->m'.μ Y=some L:=by
  intro L hL;obtain⟨_,L',h5,_⟩:=hY';have:=hle.μ Y L' hY.1 h5;rw[hL]at this;injection this with this
  rw[this];exact h5
 have G2:=Dt (A:=[((N,AO.row t sz []),[])]) G' ((hI N).orel hle hμ AdB.wd1 (AdB.vc1 hv) hw hY);exact⟨⟨st.T,(N,.row t sz [])::st.S.set q (Y,.row t2 sz2 (l2' N))⟩,⟨m',N+1,((N,.row t sz []),[])::Z.set q ((Y,.row t2 sz2 (l2' N)),bs2),hw,by rw[List.map_cons,List.map_set,h2],G2.perm ((hp2 _).symm.cons _),h4.mono hle⟩,N,rfl⟩
theorem AWP.adoptIn{P:Program}{nt:Nat}{c:Code}{Q:Exit->St->Prop}{T:List (Nat×AV)}{S:List AA}{q Y:Nat}{t2:TypeId}{sz2:Nat}{l2:List AV}{l2':Nat->List AV}(t:TypeId)(sz:Nat)(hq:At S q (Y,.row t2 sz2 l2))(hI:∀X,Ics (AdB X) l2 (l2' X))(k:∀X,AWP ro P nt c Q ⟨T,(X,.row t sz [])::S.set q (Y,.row t2 sz2 (l2' X))⟩):AWP ro P nt c Q ⟨T,S⟩:=
 .ghost (St.adoptIn (st:=⟨T,S⟩) t sz hq hI) λst' ⟨X,e⟩=>by subst e;exact k X
theorem AWP.iceIn{P:Program}{nt:Nat}{c:Code}{Q:Exit->St->Prop}{T:List (Nat×AV)}{S:List AA}{p q Y:Nat}{t2:TypeId}{sz2:Nat}{l2 l2':List AV}(hS:At S p (X,.row t sz l))(hq:At S q (Y,.row t2 sz2 l2))(hpq:Nat.beq p q=false)(hI:Ics (IceB X t sz l) l2 l2')(k:AWP ro P nt c Q ⟨T,(S.set p (X,.used)).set q (Y,.row t2 sz2 l2')⟩):AWP ro P nt c Q ⟨T,S⟩:=
 .ghost (St.iceIn (st:=⟨T,S⟩) (λe=>by subst e;simp at hpq) hS hq hI) λst' e=>by subst e;exact k
end
end
section
theorem D6{sz:Nat}:∀(xs:List (Nat×AV)) (l l':List AV),BE sz l xs=some l' ->l'.length=l.length
 |[],l,l',h=>by injection h with h;rw[h]
 |(i,v)::r,l,l',h=>by
  unfold BE at h;split at h
  ·cases h
  ·rw[D6 r _ _ h,List.length_set]
theorem Rel.sub{nt:Nat}{m0:Mem}{T:List (Nat×AV)}{S S':List AA}{a:Act}{w:World}(h:Rel nt m0 ⟨T,S⟩ a w)(k:S'.Sublist S):Rel nt m0 ⟨T,S'⟩ a w:=by
 obtain⟨m,N,Z,h1,h2,h3,h4⟩:=h;obtain⟨Z',hs,hm⟩:=DP _ k h2;exact⟨m,N,Z',h1,hm,h3.sub hs,h4⟩
class Frz(a:AV)(b:outParam AV):Prop where h:a.frz=b
class Frzs(a:List AV)(b:outParam (List AV)):Prop where h:AV.frzs a=b
instance {u:Value}:Frz (.prim u) (.prim u):=⟨rfl⟩
instance {x o l:Nat}:Frz (.ptr x o l) (.ptr x o l):=⟨rfl⟩
instance {o:Bool}{t:TypeId}{sz:Nat}{l l':List AV}[h:Frzs l l']:Frz (.lst o t sz l) (.lst false t sz l'):=⟨by show AV.lst false t sz (AV.frzs l)=_;rw[h.h]⟩
instance {l l':List AV}[h:Frzs l l']:Frz (.tup l) (.tup l'):=⟨by show AV.tup (AV.frzs l)=_;rw[h.h]⟩
instance:Frzs [] []:=⟨rfl⟩
instance {a b:AV}{l l':List AV}[h:Frz a b][k:Frzs l l']:Frzs (a::l) (b::l'):=⟨by show AV.frz a::AV.frzs l=_;rw[h.h,k.h]⟩
instance {α:Type}{f g:α->AV}{l:List α}[h:∀a,Frz (f a) (g a)]:Frzs (l.map f) (l.map g):=⟨by rw[Bp,List.map_map];exact List.map_congr_left λa _=>(h a).h⟩
def over:List AV->List AV->List AV
 |w::ws,_::cs=>w::over ws cs
 |_,cs=>cs
def Ba:List AV->Nat->List AV->List AV
 |cs,0,ws=>over ws cs
 |c::cs,k+1,ws=>c::Ba cs k ws
 |[],_+1,_=>[]
def Bn:List (Nat×Nat)->Nat->Nat
 |(o,_)::_,0=>o
 |_::r,i+1=>Bn r i
 |[],_=>0
def Ax(pl:List (Nat×Nat)):List AV->List (Nat×AV)->List AV
 |cs,[]=>cs
 |cs,(i,v)::r=>Ax pl (Ba cs (Bn pl i) v.cells) r
def H1:AV->Nat->AV->AV
 |.agg cs,k,v=>.agg (Ba cs k v.cells)
 |_,_,v=>v
theorem AX{pl:List (Nat×Nat)}{l cs:List AV}{xs:List (Nat×AV)}(h:Ax pl l xs=cs)(k:Bf pl l xs=some (Ax pl l xs)):Bf pl l xs=some cs:=h▸k
theorem HX{l l':List AV}{a b:Nat}{e v:AV}(h:l.set a (H1 e b v)=l')(k:Ar e b v=H1 e b v):l.set a (Ar e b v)=l':=k▸h
section
variable {P:Program}{dst:Option Tmp}{ty t te:TypeId}{pos:String}{after:Array Edge}{g:Option (Nat×Bool)}{sz:Nat}
theorem BB{ps:List (Nat×Operand×AV)}{zl:List Value}{ag:Bool}{n:Nat}{l:List AV}(he:Bb P t=some te)(hz:tZ P te=some zl)(hsz:tSz P te=some sz)(hzs:zl.length=sz)(hag:ag=true\/zl.length=1)(hn:n*sz<=16777216)(h0:0<n*sz)
  (hf:BE sz (List.replicate n (zAV zl ag)) (ps.map λq=>(q.1,q.2.2))=some l):OpT P ⟨dst,.buildSlice t n (ps.map λq=>(q.1,q.2.1)).toArray,ty,pos,after,g⟩ (ps.map (·.2)) [] (.lst false te sz (AV.frzs l)) []:=by
 intro nt m0 T S a w hx hS hd hr;obtain⟨_,hr',X,rfl⟩:=St.reserve (nt:=nt) ⟨T,S⟩ m0 a w hr;have hl:n=l.length:=by rw[D6 _ _ _ hf,List.length_replicate]
 refine Oper.wp_mono (λa' w' h=>?_) (OpT.buildSlice (dst:=dst) (ty:=ty) (t:=t) (pos:=pos) (after:=after) (g:=g) (X:=X) (p:=0) he hz hsz hzs hag hn h0 hf nt m0 T ((X,.gone)::S) a w hx (by simp) hd hr');cases dst with
 |none=>exact Rel.sub h (.cons _ (.refl _))
 |some d=>
  obtain⟨_,h2,rfl⟩:=H8 (nt:=nt) (st:=⟨AE T (some d) (.sl X 0 n),AF ((X,.gone)::S) [(0,(X,.row te sz l))]⟩) (d:=d) (n:=n) (p:=0) (X:=X) (t:=te) (sz:=sz) (l:=l) (by simp[AE,AM]) .here hl m0 a' w' h;refine Rel.sub (C9 h2 λe v he=>?_) (.cons _ (.refl _));simp only[AE,AM]at he⊢;by_cases e':e=d
  ·simpa[e']using he
  ·simpa[e']using he
end
namespace W
theorem storeN{P:Program}{dst:Option Tmp}{ty t t':TypeId}{pos:String}{after:Array Edge}{g:Option (Nat×Bool)}{T:List (Nat×AV)}{S:List AA}{c:Option (List Bool)}{l l':List AV}{x y:Operand}{X p sz n a b:Nat}{e v:AV}[TSize P t n](hx:Rd c T x (.ptr X a b))(hy:Rd c T y v)(hSp:At S p (X,.row t' sz l))(hi:l[a]?=some e)(h:Cm e b n v=true)(hl:l.set a (Ar e b v)=l'):Stp c P ⟨dst,.store t x y,ty,pos,after,g⟩ T S [(x,.ptr X a b),(y,v)] [(p,(X,.row t' sz l))] .dead [(p,(X,.row t' sz l'))]:=hl▸W.store hx hy hSp hi h
theorem allocN{P:Program}{dst:Option Tmp}{ty t:TypeId}{pos:String}{after:Array Edge}{g:Option (Nat×Bool)}{T:List (Nat×AV)}{S:List AA}{c:Option (List Bool)}{X p:Nat}{zl:List Value}{ag:Bool}{a:AV}{n:Nat}[TZe P t zl][TAg P t ag](hSp:At S p (X,.gone))(h:ag=true\/zl.length=1)(hz:zAV zl ag=a)(hn:zl.length=n):Stp c P ⟨dst,.alloc t,ty,pos,after,g⟩ T S [] [(p,(X,.gone))] (.ptr X 0 0) [(p,(X,.row t n [a]))]:=hz▸hn▸W.alloc hSp h
theorem loadW{P:Program}{dst:Option Tmp}{ty t t':TypeId}{pos:String}{after:Array Edge}{g:Option (Nat×Bool)}{T:List (Nat×AV)}{S:List AA}{c:Option (List Bool)}{l:List AV}{x:Operand}{X p sz n a:Nat}{e:AV}[TAg P t true][TSize P t n](hx:Rd c T x (.ptr X a 0))(hSp:At S p (X,.row t' sz l))(hi:l[a]?=some e)(h:BT e.cells 0 n true=some e):Stp c P ⟨dst,.load t x,ty,pos,after,g⟩ T S [(x,.ptr X a 0)] [(p,(X,.row t' sz l))] e []:=W.load hx hSp hi h
theorem loadFW{P:Program}{dst:Option Tmp}{ty t:TypeId}{pos:String}{after:Array Edge}{g:Option (Nat×Bool)}{T:List (Nat×AV)}{S:List AA}{c:Option (List Bool)}{x:Operand}{n:Nat}{e:AV}[TAg P t true][TSize P t n](hx:Rd c T x (.fp e.cells))(h:BT e.cells 0 n true=some e):Stp c P ⟨dst,.load t x,ty,pos,after,g⟩ T S [(x,.fp e.cells)] [] e []:=W.loadF hx h
variable {P:Program}{dst:Option Tmp}{ty t te:TypeId}{pos:String}{after:Array Edge}{g:Option (Nat×Bool)}{sz:Nat}{T:List (Nat×AV)}{S:List AA}{c:Option (List Bool)}{l l':List AV}
theorem litF0{zl:List Value}{ag:Bool}[TEl P t te][TZe P te zl][TSize P te sz][TAg P te ag](hzs:zl.length=sz)(hag:ag=true\/zl.length=1)(hn:0*sz<=16777216)(hpos:0<0*sz)(hf:BE sz (List.replicate 0 (zAV zl ag)) []=some [])[hz:Frzs [] l']:Stp c P ⟨dst,.buildSlice t 0 #[],ty,pos,after,g⟩ T S [] [] (.lst false te sz l') []:=⟨hz.h▸BB (ps:=[]) TEl.h TZe.h TSize.h hzs hag hn hpos hf,.nil,.nil⟩
theorem litF1{x0:Operand}{v0:AV}{zl:List Value}{ag:Bool}[TEl P t te][TZe P te zl][TSize P te sz][TAg P te ag](h0:Rd c T x0 v0)(hzs:zl.length=sz)(hag:ag=true\/zl.length=1)(hn:1*sz<=16777216)(hpos:0<1*sz)(hf:BE sz (List.replicate 1 (zAV zl ag)) [(0,v0)]=some [v0])[hz:Frzs [v0] l']:Stp c P ⟨dst,.buildSlice t 1 #[(0,x0)],ty,pos,after,g⟩ T S [(x0,v0)] [] (.lst false te sz l') []:=⟨hz.h▸BB (ps:=[(0,x0,v0)]) TEl.h TZe.h TSize.h hzs hag hn hpos hf,(.cons h0 .nil),.nil⟩
theorem litF2{x0:Operand}{v0:AV}{x1:Operand}{v1:AV}{zl:List Value}{ag:Bool}[TEl P t te][TZe P te zl][TSize P te sz][TAg P te ag](h0:Rd c T x0 v0)(h1:Rd c T x1 v1)(hzs:zl.length=sz)(hag:ag=true\/zl.length=1)(hn:2*sz<=16777216)(hpos:0<2*sz)(hf:BE sz (List.replicate 2 (zAV zl ag)) [(0,v0),(1,v1)]=some [v0,v1])[hz:Frzs [v0,v1] l']:Stp c P ⟨dst,.buildSlice t 2 #[(0,x0),(1,x1)],ty,pos,after,g⟩ T S [(x0,v0),(x1,v1)] [] (.lst false te sz l') []:=⟨hz.h▸BB (ps:=[(0,x0,v0),(1,x1,v1)]) TEl.h TZe.h TSize.h hzs hag hn hpos hf,(.cons h0 (.cons h1 .nil)),.nil⟩
theorem litF3{x0:Operand}{v0:AV}{x1:Operand}{v1:AV}{x2:Operand}{v2:AV}{zl:List Value}{ag:Bool}[TEl P t te][TZe P te zl][TSize P te sz][TAg P te ag](h0:Rd c T x0 v0)(h1:Rd c T x1 v1)(h2:Rd c T x2 v2)(hzs:zl.length=sz)(hag:ag=true\/zl.length=1)(hn:3*sz<=16777216)(hpos:0<3*sz)(hf:BE sz (List.replicate 3 (zAV zl ag)) [(0,v0),(1,v1),(2,v2)]=some [v0,v1,v2])[hz:Frzs [v0,v1,v2] l']:Stp c P ⟨dst,.buildSlice t 3 #[(0,x0),(1,x1),(2,x2)],ty,pos,after,g⟩ T S [(x0,v0),(x1,v1),(x2,v2)] [] (.lst false te sz l') []:=⟨hz.h▸BB (ps:=[(0,x0,v0),(1,x1,v1),(2,x2,v2)]) TEl.h TZe.h TSize.h hzs hag hn hpos hf,(.cons h0 (.cons h1 (.cons h2 .nil))),.nil⟩
theorem litF4{x0:Operand}{v0:AV}{x1:Operand}{v1:AV}{x2:Operand}{v2:AV}{x3:Operand}{v3:AV}{zl:List Value}{ag:Bool}[TEl P t te][TZe P te zl][TSize P te sz][TAg P te ag](h0:Rd c T x0 v0)(h1:Rd c T x1 v1)(h2:Rd c T x2 v2)(h3:Rd c T x3 v3)(hzs:zl.length=sz)(hag:ag=true\/zl.length=1)(hn:4*sz<=16777216)(hpos:0<4*sz)(hf:BE sz (List.replicate 4 (zAV zl ag)) [(0,v0),(1,v1),(2,v2),(3,v3)]=some [v0,v1,v2,v3])[hz:Frzs [v0,v1,v2,v3] l']:Stp c P ⟨dst,.buildSlice t 4 #[(0,x0),(1,x1),(2,x2),(3,x3)],ty,pos,after,g⟩ T S [(x0,v0),(x1,v1),(x2,v2),(x3,v3)] [] (.lst false te sz l') []:=⟨hz.h▸BB (ps:=[(0,x0,v0),(1,x1,v1),(2,x2,v2),(3,x3,v3)]) TEl.h TZe.h TSize.h hzs hag hn hpos hf,(.cons h0 (.cons h1 (.cons h2 (.cons h3 .nil)))),.nil⟩
theorem litF5{x0:Operand}{v0:AV}{x1:Operand}{v1:AV}{x2:Operand}{v2:AV}{x3:Operand}{v3:AV}{x4:Operand}{v4:AV}{zl:List Value}{ag:Bool}[TEl P t te][TZe P te zl][TSize P te sz][TAg P te ag](h0:Rd c T x0 v0)(h1:Rd c T x1 v1)(h2:Rd c T x2 v2)(h3:Rd c T x3 v3)(h4:Rd c T x4 v4)(hzs:zl.length=sz)(hag:ag=true\/zl.length=1)(hn:5*sz<=16777216)(hpos:0<5*sz)(hf:BE sz (List.replicate 5 (zAV zl ag)) [(0,v0),(1,v1),(2,v2),(3,v3),(4,v4)]=some [v0,v1,v2,v3,v4])[hz:Frzs [v0,v1,v2,v3,v4] l']:Stp c P ⟨dst,.buildSlice t 5 #[(0,x0),(1,x1),(2,x2),(3,x3),(4,x4)],ty,pos,after,g⟩ T S [(x0,v0),(x1,v1),(x2,v2),(x3,v3),(x4,v4)] [] (.lst false te sz l') []:=⟨hz.h▸BB (ps:=[(0,x0,v0),(1,x1,v1),(2,x2,v2),(3,x3,v3),(4,x4,v4)]) TEl.h TZe.h TSize.h hzs hag hn hpos hf,(.cons h0 (.cons h1 (.cons h2 (.cons h3 (.cons h4 .nil))))),.nil⟩
theorem litF6{x0:Operand}{v0:AV}{x1:Operand}{v1:AV}{x2:Operand}{v2:AV}{x3:Operand}{v3:AV}{x4:Operand}{v4:AV}{x5:Operand}{v5:AV}{zl:List Value}{ag:Bool}[TEl P t te][TZe P te zl][TSize P te sz][TAg P te ag](h0:Rd c T x0 v0)(h1:Rd c T x1 v1)(h2:Rd c T x2 v2)(h3:Rd c T x3 v3)(h4:Rd c T x4 v4)(h5:Rd c T x5 v5)(hzs:zl.length=sz)(hag:ag=true\/zl.length=1)(hn:6*sz<=16777216)(hpos:0<6*sz)(hf:BE sz (List.replicate 6 (zAV zl ag)) [(0,v0),(1,v1),(2,v2),(3,v3),(4,v4),(5,v5)]=some [v0,v1,v2,v3,v4,v5])[hz:Frzs [v0,v1,v2,v3,v4,v5] l']:Stp c P ⟨dst,.buildSlice t 6 #[(0,x0),(1,x1),(2,x2),(3,x3),(4,x4),(5,x5)],ty,pos,after,g⟩ T S [(x0,v0),(x1,v1),(x2,v2),(x3,v3),(x4,v4),(x5,v5)] [] (.lst false te sz l') []:=⟨hz.h▸BB (ps:=[(0,x0,v0),(1,x1,v1),(2,x2,v2),(3,x3,v3),(4,x4,v4),(5,x5,v5)]) TEl.h TZe.h TSize.h hzs hag hn hpos hf,(.cons h0 (.cons h1 (.cons h2 (.cons h3 (.cons h4 (.cons h5 .nil)))))),.nil⟩
theorem litF7{x0:Operand}{v0:AV}{x1:Operand}{v1:AV}{x2:Operand}{v2:AV}{x3:Operand}{v3:AV}{x4:Operand}{v4:AV}{x5:Operand}{v5:AV}{x6:Operand}{v6:AV}{zl:List Value}{ag:Bool}[TEl P t te][TZe P te zl][TSize P te sz][TAg P te ag](h0:Rd c T x0 v0)(h1:Rd c T x1 v1)(h2:Rd c T x2 v2)(h3:Rd c T x3 v3)(h4:Rd c T x4 v4)(h5:Rd c T x5 v5)(h6:Rd c T x6 v6)(hzs:zl.length=sz)(hag:ag=true\/zl.length=1)(hn:7*sz<=16777216)(hpos:0<7*sz)(hf:BE sz (List.replicate 7 (zAV zl ag)) [(0,v0),(1,v1),(2,v2),(3,v3),(4,v4),(5,v5),(6,v6)]=some [v0,v1,v2,v3,v4,v5,v6])[hz:Frzs [v0,v1,v2,v3,v4,v5,v6] l']:Stp c P ⟨dst,.buildSlice t 7 #[(0,x0),(1,x1),(2,x2),(3,x3),(4,x4),(5,x5),(6,x6)],ty,pos,after,g⟩ T S [(x0,v0),(x1,v1),(x2,v2),(x3,v3),(x4,v4),(x5,v5),(x6,v6)] [] (.lst false te sz l') []:=⟨hz.h▸BB (ps:=[(0,x0,v0),(1,x1,v1),(2,x2,v2),(3,x3,v3),(4,x4,v4),(5,x5,v5),(6,x6,v6)]) TEl.h TZe.h TSize.h hzs hag hn hpos hf,(.cons h0 (.cons h1 (.cons h2 (.cons h3 (.cons h4 (.cons h5 (.cons h6 .nil))))))),.nil⟩
theorem litF8{x0:Operand}{v0:AV}{x1:Operand}{v1:AV}{x2:Operand}{v2:AV}{x3:Operand}{v3:AV}{x4:Operand}{v4:AV}{x5:Operand}{v5:AV}{x6:Operand}{v6:AV}{x7:Operand}{v7:AV}{zl:List Value}{ag:Bool}[TEl P t te][TZe P te zl][TSize P te sz][TAg P te ag](h0:Rd c T x0 v0)(h1:Rd c T x1 v1)(h2:Rd c T x2 v2)(h3:Rd c T x3 v3)(h4:Rd c T x4 v4)(h5:Rd c T x5 v5)(h6:Rd c T x6 v6)(h7:Rd c T x7 v7)(hzs:zl.length=sz)(hag:ag=true\/zl.length=1)(hn:8*sz<=16777216)(hpos:0<8*sz)(hf:BE sz (List.replicate 8 (zAV zl ag)) [(0,v0),(1,v1),(2,v2),(3,v3),(4,v4),(5,v5),(6,v6),(7,v7)]=some [v0,v1,v2,v3,v4,v5,v6,v7])[hz:Frzs [v0,v1,v2,v3,v4,v5,v6,v7] l']:Stp c P ⟨dst,.buildSlice t 8 #[(0,x0),(1,x1),(2,x2),(3,x3),(4,x4),(5,x5),(6,x6),(7,x7)],ty,pos,after,g⟩ T S [(x0,v0),(x1,v1),(x2,v2),(x3,v3),(x4,v4),(x5,v5),(x6,v6),(x7,v7)] [] (.lst false te sz l') []:=⟨hz.h▸BB (ps:=[(0,x0,v0),(1,x1,v1),(2,x2,v2),(3,x3,v3),(4,x4,v4),(5,x5,v5),(6,x6,v6),(7,x7,v7)]) TEl.h TZe.h TSize.h hzs hag hn hpos hf,(.cons h0 (.cons h1 (.cons h2 (.cons h3 (.cons h4 (.cons h5 (.cons h6 (.cons h7 .nil)))))))),.nil⟩
end W
end
section
variable {ro:Option Nat}
open Go.RowKit
section
variable {P:Program}{nt:Nat}{m0 m:Mem}{X p:Nat}{t:TypeId}{sz:Nat}{e:AV}
theorem Hm{st:St}(ds:List Nat)(hd:∀d∈ds,AI st.T d=some (.ptr X 0 0))(hS:At st.S p (X,.row t sz [e])):DG nt st λst'=>st'=⟨ds.map (λd=>(d,.fp e.frz.cells))++st.T,st.S.set p (X,.used)⟩:=by
 rintro m0 a w ⟨m,N,Z,rfl,h2,h3,h4⟩;obtain⟨bs,hz⟩:=hS.z h2;obtain⟨R,hp1,hp2⟩:=Ab hz;obtain⟨m',hw,G',hle,_,hv⟩:=(h3.perm hp1).iced;refine⟨_,⟨m',N,Z.set p ((X,.used),[]),hw,by rw[List.map_set,h2],G'.perm (hp2 _).symm,h4.1,h4.2.1.mono hle,?_⟩,rfl⟩;have hT:∀d v,AI st.T d=some v->∃u,a.tmps[d]?=some u/\VV m v u []:=h4.2.2;clear h4
 induction ds with
 |nil=>exact λd v h=>let ⟨u,h5,h6⟩:=hT d v h;⟨u,h5,h6.mono hle (by simp)⟩
 |cons d ds ih=>
  intro d' v h;simp only[List.map_cons,List.cons_append]at h;rw[AM]at h;split at h
  ·rename_i e';subst e'
   injection h with h;subst h
   obtain⟨u,h5,h6⟩:=hT _ _ (hd d' (by simp));exact⟨u,h5,hv e [u] rfl h6⟩
  ·exact ih (λd hd'=>hd d (by simp[hd'])) d' v h
end
section
variable {P:Program}{dst:Option Tmp}{ty t:TypeId}{pos:String}{after:Array Edge}{g:Option (Nat×Bool)}{x:Operand}{v:AV}
theorem OpT.boxF(hs:v.stor=true):OpT P ⟨dst,.box t x,ty,pos,after,g⟩ [(x,v)] [] (.fp v.frz.cells) []:=by
 intro nt m0 T S a w hx hS hd hr;obtain⟨_,hr',X,rfl⟩:=St.reserve (nt:=nt) ⟨T,S⟩ m0 a w hr;refine Oper.wp_mono (λa' w' h=>?_) (OpT.box (dst:=dst) (ty:=ty) (t:=t) (pos:=pos) (after:=after) (g:=g) (X:=X) (p:=0) hs nt m0 T ((X,.gone)::S) a w hx (by simp) hd hr');cases dst with
 |none=>exact Rel.sub h (.cons _ (.refl _))
 |some d=>
  obtain⟨_,h2,rfl⟩:=Hm (nt:=nt) (st:=⟨AE T (some d) (.ptr X 0 0),AF ((X,.gone)::S) [(0,(X,.row t v.width [v]))]⟩) (p:=0) (X:=X) (t:=t) (sz:=v.width) (e:=v) [d] (by simp[AE,AM]) .here m0 a' w' h;refine Rel.sub (C9 h2 λe v he=>?_) (.cons _ (.refl _));simp only[AE,AM,List.map_cons,List.map_nil,List.cons_append,List.nil_append]at he⊢;by_cases e':e=d
  ·simpa[e']using he
  ·simpa[e']using he
theorem Fh{m:Mem}:∀{cap:List AV} {us:List Value},B5 cap=true->VCs m cap us []->VTs m cap us []
 |[],us,_,h=>⟨h.1,rfl⟩
 |c::cap,us,hs,h=>by
  simp only[B5,Bool.and_eq_true]at hs;obtain⟨c1,c2,b1,b2,rfl,e,h1,h2⟩:=h;obtain⟨rfl,rfl⟩:b1=[]/\b2=[]:=by simpa using e.symm
  have hl:=VC.len _ h1;have hw:c.width=1:=by cases c<;>first|rfl|(simp[AV.st1]at hs)
  rw[hw]at hl;obtain⟨u,rfl⟩:=List.length_eq_one_iff.1 hl;have hn:ntup c=true:=by cases c<;>first|rfl|(simp[AV.st1]at hs)
  have hv:VV m c u []:=by cases c<;>first|exact h1|(simp[AV.st1]at hs)
  exact(AK hn).2 ⟨u,c2,[],[],rfl,rfl,hv,Fh hs.2 h2⟩
variable {xs:List (Operand×AV)}{f:FuncId}{cap:List AV}{ats:Array TypeId}{r:AV}
variable {X p:Nat}{o o':AO}
end
namespace W
variable {P:Program}{dst:Option Tmp}{ty t:TypeId}{pos:String}{after:Array Edge}{g:Option (Nat×Bool)}{T:List (Nat×AV)}{S:List AA}{c:Option (List Bool)}{x:Operand}{v r r':AV}{f:FuncId}{cap:List AV}{ats:Array TypeId}{X p:Nat}{o o':AO}
theorem boxF(hx:Rd c T x v)(hs:v.stor=true){b:AV}[hf:Frz v b]:Stp c P ⟨dst,.box t x,ty,pos,after,g⟩ T S [(x,v)] [] (.fp b.cells) []:=⟨hf.h▸OpT.boxF hs,.cons hx .nil,.nil⟩
theorem func0:Stp c P ⟨dst,.makeFunc (.func f) #[] #[],ty,pos,after,g⟩ T S [] [] (.fn f []) []:=⟨.makeFunc (xs:=[]) rfl,.nil,.nil⟩
end W
end
section
variable {ro:Option Nat}
inductive Grd(ops:Array Oper)(T:List (Nat×AV)):Option (Nat×Bool)->List Nat->Prop
 |none:Grd ops T .none []
 |met {g t:Nat} {b b':Bool} (ht:(ops[g]?).bind (·.dst)=some t) (hv:AI T t=some (.prim (.bool b'))) (hb:b'=b):Grd ops T (some (g,b)) [t]
section
variable {P:Program}{nt:Nat}{ops:Array Oper}{Q:Exit->St->Prop}{l rest:List Oper}{acc:List Eff}{st:St}{T:List (Nat×AV)}{S:List AA}{xs:List (Operand×AV)}{rS wS:List (Nat×AA)}{v:AV}{op:Op}{ty:TypeId}{pos:String}{after:Array Edge}{dst:Option Tmp}{g:Option (Nat×Bool)}{ts:List Nat}
theorem Stp.ung{g':Option (Nat×Bool)}{c:Option (List Bool)}(h:Stp c P ⟨dst,op,ty,pos,after,g⟩ T S xs rS v wS):Stp c P ⟨dst,op,ty,pos,after,g'⟩ T S xs rS v wS:=⟨h.op,h.rd,h.get⟩
theorem Fb(h:Stp none P ⟨dst,op,ty,pos,after,g⟩ T S xs rS v wS)(hd:AD dst nt=true)(hg:Grd ops T g ts)(k:RGo P nt ops l Q rest (acc++[⟨⟨dst,op,ty,pos,after,g⟩,ts++AP xs,rS.map (·.1),v,wS⟩]) ⟨AE T dst v,AF S wS⟩):RGo P nt ops l Q (⟨dst,op,ty,pos,after,g⟩::rest) acc ⟨T,S⟩:=by
 cases hg with
 |none=>exact RGo.s h hd k
 |met ht hv hb=>exact RGo.sG ht hv hb h.ung hd k
theorem HK(h:Stp none P ⟨dst,op,ty,pos,after,g⟩ T S xs rS v [])(hd:AD dst nt=true)(hg:Grd ops T g ts)(k:RGo P nt ops l Q rest (acc++[⟨⟨dst,op,ty,pos,after,g⟩,ts++AP xs,rS.map (·.1),v,[]⟩]) ⟨AE T dst v,S⟩):RGo P nt ops l Q (⟨dst,op,ty,pos,after,g⟩::rest) acc ⟨T,S⟩:=Fb h hd hg k
end
namespace W
variable {P:Program}{dst:Option Tmp}{ty:TypeId}{pos:String}{after:Array Edge}{g:Option (Nat×Bool)}{T:List (Nat×AV)}{S:List AA}{c:Option (List Bool)}{x y z:Operand}{v w:AV}
theorem pickB{b p q:Bool}(hx:Rd c T x (.prim (.bool b)))(hy:Rd c T y (.prim (.bool p)))(hz:Rd c T z (.prim (.bool q))):Stp c P ⟨dst,.pick x y z,ty,pos,after,g⟩ T S [(x,.prim (.bool b)),(y,.prim (.bool p)),(z,.prim (.bool q))] [] (.prim (.bool (cond b p q))) []:=by
 cases b<;>exact pick hx hy hz
theorem pickT{b:Bool}{va vb:AV}(hx:Rd c T x (.prim (.bool b)))(hy:Rd c T y va)(hb:b=true)(hz:Rd c T z vb:=by rfl):Stp c P ⟨dst,.pick x y z,ty,pos,after,g⟩ T S [(x,.prim (.bool b)),(y,va),(z,vb)] [] va []:=by
 subst hb;exact pick hx hy hz
theorem pickF{b:Bool}{va vb:AV}(hx:Rd c T x (.prim (.bool b)))(hz:Rd c T z vb)(hb:b=false)(hy:Rd c T y va:=by rfl):Stp c P ⟨dst,.pick x y z,ty,pos,after,g⟩ T S [(x,.prim (.bool b)),(y,va),(z,vb)] [] vb []:=by
 subst hb;exact pick hx hy hz
end W
theorem AOps.sub{P:Program}{nt:Nat}{ops:Array Oper}{Q:Exit->St->Prop}{rest:List Oper}{T:List (Nat×AV)}{S S':List AA}(hS:S'.Sublist S)(h:AOps ro P nt ops Q rest ⟨T,S'⟩):AOps ro P nt ops Q rest ⟨T,S⟩:=λm0 a w hr=>h m0 a w (hr.sub hS)
section
variable {P:Program}{ty t t2:TypeId}{pos:String}{after:Array Edge}{dst:Option Tmp}{g:Option (Nat×Bool)}{x y z:Operand}{f n:Nat}{ar:Array (Nat×Operand)}{c:Option (List Bool)}{T:List (Nat×AV)}{S:List AA}{xs:List (Operand×AV)}{rS wS:List (Nat×AA)}{v:AV}
theorem Dp(k:Stp c P ⟨dst,.move x,ty,pos,after,g⟩ T S xs rS v wS):Stp c P ⟨dst,.move x,ty,pos,after,g⟩ T S xs rS v wS:=k
theorem Cp(k:Stp c P ⟨dst,.assign x,ty,pos,after,g⟩ T S xs rS v wS):Stp c P ⟨dst,.assign x,ty,pos,after,g⟩ T S xs rS v wS:=k
theorem Dq(k:Stp c P ⟨dst,.load t x,ty,pos,after,g⟩ T S xs rS v wS):Stp c P ⟨dst,.load t x,ty,pos,after,g⟩ T S xs rS v wS:=k
theorem E7(k:Stp c P ⟨dst,.store t x y,ty,pos,after,g⟩ T S xs rS v wS):Stp c P ⟨dst,.store t x y,ty,pos,after,g⟩ T S xs rS v wS:=k
theorem B0(k:Stp c P ⟨dst,.fieldAddr t x f,ty,pos,after,g⟩ T S xs rS v wS):Stp c P ⟨dst,.fieldAddr t x f,ty,pos,after,g⟩ T S xs rS v wS:=k
theorem DE(k:Stp c P ⟨dst,.field t x f,ty,pos,after,g⟩ T S xs rS v wS):Stp c P ⟨dst,.field t x f,ty,pos,after,g⟩ T S xs rS v wS:=k
theorem Bz(k:Stp c P ⟨dst,.indexAddr t x y,ty,pos,after,g⟩ T S xs rS v wS):Stp c P ⟨dst,.indexAddr t x y,ty,pos,after,g⟩ T S xs rS v wS:=k
theorem DD(k:Stp c P ⟨dst,.index t x y,ty,pos,after,g⟩ T S xs rS v wS):Stp c P ⟨dst,.index t x y,ty,pos,after,g⟩ T S xs rS v wS:=k
theorem Bg(k:Stp c P ⟨dst,.alloc t,ty,pos,after,g⟩ T S xs rS v wS):Stp c P ⟨dst,.alloc t,ty,pos,after,g⟩ T S xs rS v wS:=k
theorem Stp.g_box(k:Stp c P ⟨dst,.box t x,ty,pos,after,g⟩ T S xs rS v wS):Stp c P ⟨dst,.box t x,ty,pos,after,g⟩ T S xs rS v wS:=k
theorem EB{bo:BinOp}(k:Stp c P ⟨dst,.binOp bo t x y t2,ty,pos,after,g⟩ T S xs rS v wS):Stp c P ⟨dst,.binOp bo t x y t2,ty,pos,after,g⟩ T S xs rS v wS:=k
theorem E6{uo:UnOp}(k:Stp c P ⟨dst,.unOp uo t x,ty,pos,after,g⟩ T S xs rS v wS):Stp c P ⟨dst,.unOp uo t x,ty,pos,after,g⟩ T S xs rS v wS:=k
theorem Dr{ci}(k:Stp c P ⟨dst,.call ci,ty,pos,after,g⟩ T S xs rS v wS):Stp c P ⟨dst,.call ci,ty,pos,after,g⟩ T S xs rS v wS:=k
theorem Do(k:Stp c P ⟨dst,.pick x y z,ty,pos,after,g⟩ T S xs rS v wS):Stp c P ⟨dst,.pick x y z,ty,pos,after,g⟩ T S xs rS v wS:=k
theorem CX(k:Stp c P ⟨dst,.extract x n,ty,pos,after,g⟩ T S xs rS v wS):Stp c P ⟨dst,.extract x n,ty,pos,after,g⟩ T S xs rS v wS:=k
theorem DF(k:Stp c P ⟨dst,.build t ar,ty,pos,after,g⟩ T S xs rS v wS):Stp c P ⟨dst,.build t ar,ty,pos,after,g⟩ T S xs rS v wS:=k
theorem Bq(k:Stp c P ⟨dst,.buildSlice t n ar,ty,pos,after,g⟩ T S xs rS v wS):Stp c P ⟨dst,.buildSlice t n ar,ty,pos,after,g⟩ T S xs rS v wS:=k
theorem CE(k:Stp c P ⟨dst,.nilCheck x,ty,pos,after,g⟩ T S xs rS v wS):Stp c P ⟨dst,.nilCheck x,ty,pos,after,g⟩ T S xs rS v wS:=k
theorem CF{fu:Fn}{fi ca:Array Operand}(k:Stp c P ⟨dst,.makeFunc fu fi ca,ty,pos,after,g⟩ T S xs rS v wS):Stp c P ⟨dst,.makeFunc fu fi ca,ty,pos,after,g⟩ T S xs rS v wS:=k
end
theorem AB{cs:List Bool}{T:List (Nat×AV)}{x:Operand}{w v:AV}(h:ev T x=some w:=by rfl)(k:Strips cs w v:=by first|with_reducible exact .a1|with_reducible exact .b12|with_reducible exact .b1|with_reducible exact .b2|with_reducible exact .refl|exact .refl|exact .step (by simp) .refl|exact .step (by simp) (.step (by simp) .refl)|exact .step (by simp) (.step (by simp) (.step (by simp) .refl))):Rd (some cs) T x v:=.q h k
theorem At.f{S:List AA}{p:Nat}{e:AA}(h:At S p e:=by(repeat (first|exact .here|apply At.next))):At S p e:=h
theorem Lk.f{T T':List (Nat×AV)}(h:Looks T T':=by(repeat (first|exact .nil|refine .cons (by first|rfl|assumption) ?_))):Looks T T':=h
theorem Sub.f{S S':List AA}(h:S'.Sublist S:=by(repeat (first|exact List.Sublist.refl _|exact List.Sublist.slnil|apply List.Sublist.cons_cons|apply List.Sublist.cons))):S'.Sublist S:=h
section
variable {P:Program}{ty:TypeId}{pos:String}{after:Array Edge}{dst:Option Tmp}{g:Option (Nat×Bool)}{op:Op}{c:Option (List Bool)}{T:List (Nat×AV)}{S:List AA}{xs:List (Operand×AV)}{rS wS:List (Nat×AA)}{v:AV}
theorem ER(h:Stp c P ⟨dst,op,ty,pos,after,g⟩ T S xs rS v wS:=by(first
   |(apply Dp;first|exact W.move rfl)
   |(apply Cp;first|exact W.assign rfl)
   |(apply Dq;first|exact W.loadFW rfl (by exact rfl)|exact W.loadW rfl (by exact At.f) (by first|exact rfl|assumption|exact Aq _ (by first|assumption|omega)|exact Aq _ (by(try simp);omega)) (by exact rfl)|exact W.loadF rfl (by exact rfl)|exact W.load rfl (by exact At.f) (by first|exact rfl|assumption|exact Aq _ (by first|assumption|omega)|exact Aq _ (by(try simp);omega)) (by exact rfl))
   |(apply B0;first|exact W.fieldF rfl (by exact rfl)|exact W.fieldA rfl (by exact At.f) (by first|exact Nat.zero_lt_one|assumption|decide|omega|((try simp);omega)|(simp;done)))
   |(apply DE;first|exact W.field rfl (by exact rfl))
   |(apply EB;first|exact W.lss rfl rfl|exact W.leq rfl rfl|exact W.gtr rfl rfl|exact W.geq rfl rfl|exact W.eqI rfl rfl|exact W.neI rfl rfl|exact W.eqS rfl rfl|exact W.neS rfl rfl|exact W.add rfl rfl ⟨by omega,by omega⟩|exact W.sub rfl rfl ⟨by omega,by omega⟩)
   |(apply E6;first|exact W.not rfl)
   |(apply Bz;first|exact W.idxL rfl rfl rfl (by first|exact rfl|assumption|exact Aq _ (by first|assumption|omega)|exact Aq _ (by(try simp);omega))|exact W.idx rfl rfl (by exact At.f) rfl (by first|exact Nat.zero_lt_one|assumption|decide|omega|((try simp);omega)|(simp;done)) (Nat.zero_add _))
   |(apply DD;first|exact W.idxStr rfl rfl rfl (by assumption))
   |(apply Dr;first|exact W.lenL rfl|exact W.lenS rfl|exact W.lenN rfl|exact W.lenStr rfl|exact W.min2 rfl rfl|exact W.max2 rfl rfl)
   |(apply CE;first|exact W.nilF rfl|exact W.nilA rfl (by exact At.f) (by first|exact Nat.zero_lt_one|assumption|decide|omega|((try simp);omega)|(simp;done)))
   |(apply CX;first|exact W.extract rfl rfl)
   |(apply DF;first|exact W.build0 (by first|exact AX (by dsimp only[Ax,Ba,Bn,over,AV.cells,List.map];try exact rfl) (by exact rfl)|exact rfl)|exact W.build1 rfl (by first|exact AX (by dsimp only[Ax,Ba,Bn,over,AV.cells,List.map];try exact rfl) (by exact rfl)|exact rfl)|exact W.build2 rfl rfl (by first|exact AX (by dsimp only[Ax,Ba,Bn,over,AV.cells,List.map];try exact rfl) (by exact rfl)|exact rfl)|exact W.build3 rfl rfl rfl (by first|exact AX (by dsimp only[Ax,Ba,Bn,over,AV.cells,List.map];try exact rfl) (by exact rfl)|exact rfl)|exact W.build4 rfl rfl rfl rfl (by first|exact AX (by dsimp only[Ax,Ba,Bn,over,AV.cells,List.map];try exact rfl) (by exact rfl)|exact rfl)|exact W.build5 rfl rfl rfl rfl rfl (by first|exact AX (by dsimp only[Ax,Ba,Bn,over,AV.cells,List.map];try exact rfl) (by exact rfl)|exact rfl)|exact W.build6 rfl rfl rfl rfl rfl rfl (by first|exact AX (by dsimp only[Ax,Ba,Bn,over,AV.cells,List.map];try exact rfl) (by exact rfl)|exact rfl)|exact W.build7 rfl rfl rfl rfl rfl rfl rfl (by first|exact AX (by dsimp only[Ax,Ba,Bn,over,AV.cells,List.map];try exact rfl) (by exact rfl)|exact rfl)|exact W.build8 rfl rfl rfl rfl rfl rfl rfl rfl (by first|exact AX (by dsimp only[Ax,Ba,Bn,over,AV.cells,List.map];try exact rfl) (by exact rfl)|exact rfl))
   |(apply Bq;first|exact W.litF0 (by exact rfl) (by first|exact .inl rfl|exact .inr rfl) (by decide) (by decide) (by exact rfl)|exact W.litF1 rfl (by exact rfl) (by first|exact .inl rfl|exact .inr rfl) (by decide) (by decide) (by exact rfl)|exact W.litF2 rfl rfl (by exact rfl) (by first|exact .inl rfl|exact .inr rfl) (by decide) (by decide) (by exact rfl)|exact W.litF3 rfl rfl rfl (by exact rfl) (by first|exact .inl rfl|exact .inr rfl) (by decide) (by decide) (by exact rfl)|exact W.litF4 rfl rfl rfl rfl (by exact rfl) (by first|exact .inl rfl|exact .inr rfl) (by decide) (by decide) (by exact rfl)|exact W.litF5 rfl rfl rfl rfl rfl (by exact rfl) (by first|exact .inl rfl|exact .inr rfl) (by decide) (by decide) (by exact rfl)|exact W.litF6 rfl rfl rfl rfl rfl rfl (by exact rfl) (by first|exact .inl rfl|exact .inr rfl) (by decide) (by decide) (by exact rfl)|exact W.litF7 rfl rfl rfl rfl rfl rfl rfl (by exact rfl) (by first|exact .inl rfl|exact .inr rfl) (by decide) (by decide) (by exact rfl)|exact W.litF8 rfl rfl rfl rfl rfl rfl rfl rfl (by exact rfl) (by first|exact .inl rfl|exact .inr rfl) (by decide) (by decide) (by exact rfl))
   |(apply CF;first|exact W.func0|exact W.func1 rfl rfl|exact W.func2 rfl rfl rfl|exact W.func3 rfl rfl rfl rfl|exact W.func4 rfl rfl rfl rfl rfl|exact W.func5 rfl rfl rfl rfl rfl rfl|exact W.func6 rfl rfl rfl rfl rfl rfl rfl|exact W.func7 rfl rfl rfl rfl rfl rfl rfl rfl)
   |(apply Do;first|exact W.pickF rfl rfl (by first|rfl|assumption)|exact W.pickT rfl rfl (by first|rfl|assumption)|exact W.orQ rfl rfl rfl|exact W.andQ rfl rfl rfl|exact W.pickB rfl rfl rfl|exact W.pickP rfl rfl rfl))):Stp c P ⟨dst,op,ty,pos,after,g⟩ T S xs rS v wS:=h
theorem BN(h:Stp c P ⟨dst,op,ty,pos,after,g⟩ T S xs rS v wS:=by(first
   |(apply Dp;first|exact W.move AB)
   |(apply Cp;first|exact W.assign AB)
   |(apply Dq;first|exact W.loadFW AB (by exact rfl)|exact W.loadW AB (by exact At.f) (by first|exact rfl|assumption|exact Aq _ (by first|assumption|omega)|exact Aq _ (by(try simp);omega)) (by exact rfl)|exact W.loadF AB (by exact rfl)|exact W.load AB (by exact At.f) (by first|exact rfl|assumption|exact Aq _ (by first|assumption|omega)|exact Aq _ (by(try simp);omega)) (by exact rfl))
   |(apply B0;first|exact W.fieldF AB (by exact rfl)|exact W.fieldA AB (by exact At.f) (by first|exact Nat.zero_lt_one|assumption|decide|omega|((try simp);omega)|(simp;done)))
   |(apply DE;first|exact W.field AB (by exact rfl))
   |(apply EB;first|exact W.lss AB AB|exact W.leq AB AB|exact W.gtr AB AB|exact W.geq AB AB|exact W.eqI AB AB|exact W.neI AB AB|exact W.eqS AB AB|exact W.neS AB AB|exact W.add AB AB ⟨by omega,by omega⟩|exact W.sub AB AB ⟨by omega,by omega⟩)
   |(apply E6;first|exact W.not AB)
   |(apply Bz;first|exact W.idxL AB AB rfl (by first|exact rfl|assumption|exact Aq _ (by first|assumption|omega)|exact Aq _ (by(try simp);omega))|exact W.idx AB AB (by exact At.f) rfl (by first|exact Nat.zero_lt_one|assumption|decide|omega|((try simp);omega)|(simp;done)) (Nat.zero_add _))
   |(apply DD;first|exact W.idxStr AB AB rfl (by assumption))
   |(apply Dr;first|exact W.lenL AB|exact W.lenS AB|exact W.lenN AB|exact W.lenStr AB|exact W.min2 AB AB|exact W.max2 AB AB)
   |(apply CE;first|exact W.nilF AB|exact W.nilA AB (by exact At.f) (by first|exact Nat.zero_lt_one|assumption|decide|omega|((try simp);omega)|(simp;done)))
   |(apply CX;first|exact W.extract AB rfl)
   |(apply DF;first|exact W.build0 (by first|exact AX (by dsimp only[Ax,Ba,Bn,over,AV.cells,List.map];try exact rfl) (by exact rfl)|exact rfl)|exact W.build1 AB (by first|exact AX (by dsimp only[Ax,Ba,Bn,over,AV.cells,List.map];try exact rfl) (by exact rfl)|exact rfl)|exact W.build2 AB AB (by first|exact AX (by dsimp only[Ax,Ba,Bn,over,AV.cells,List.map];try exact rfl) (by exact rfl)|exact rfl)|exact W.build3 AB AB AB (by first|exact AX (by dsimp only[Ax,Ba,Bn,over,AV.cells,List.map];try exact rfl) (by exact rfl)|exact rfl)|exact W.build4 AB AB AB AB (by first|exact AX (by dsimp only[Ax,Ba,Bn,over,AV.cells,List.map];try exact rfl) (by exact rfl)|exact rfl)|exact W.build5 AB AB AB AB AB (by first|exact AX (by dsimp only[Ax,Ba,Bn,over,AV.cells,List.map];try exact rfl) (by exact rfl)|exact rfl)|exact W.build6 AB AB AB AB AB AB (by first|exact AX (by dsimp only[Ax,Ba,Bn,over,AV.cells,List.map];try exact rfl) (by exact rfl)|exact rfl)|exact W.build7 AB AB AB AB AB AB AB (by first|exact AX (by dsimp only[Ax,Ba,Bn,over,AV.cells,List.map];try exact rfl) (by exact rfl)|exact rfl)|exact W.build8 AB AB AB AB AB AB AB AB (by first|exact AX (by dsimp only[Ax,Ba,Bn,over,AV.cells,List.map];try exact rfl) (by exact rfl)|exact rfl))
   |(apply Bq;first|exact W.litF0 (by exact rfl) (by first|exact .inl rfl|exact .inr rfl) (by decide) (by decide) (by exact rfl)|exact W.litF1 AB (by exact rfl) (by first|exact .inl rfl|exact .inr rfl) (by decide) (by decide) (by exact rfl)|exact W.litF2 AB AB (by exact rfl) (by first|exact .inl rfl|exact .inr rfl) (by decide) (by decide) (by exact rfl)|exact W.litF3 AB AB AB (by exact rfl) (by first|exact .inl rfl|exact .inr rfl) (by decide) (by decide) (by exact rfl)|exact W.litF4 AB AB AB AB (by exact rfl) (by first|exact .inl rfl|exact .inr rfl) (by decide) (by decide) (by exact rfl)|exact W.litF5 AB AB AB AB AB (by exact rfl) (by first|exact .inl rfl|exact .inr rfl) (by decide) (by decide) (by exact rfl)|exact W.litF6 AB AB AB AB AB AB (by exact rfl) (by first|exact .inl rfl|exact .inr rfl) (by decide) (by decide) (by exact rfl)|exact W.litF7 AB AB AB AB AB AB AB (by exact rfl) (by first|exact .inl rfl|exact .inr rfl) (by decide) (by decide) (by exact rfl)|exact W.litF8 AB AB AB AB AB AB AB AB (by exact rfl) (by first|exact .inl rfl|exact .inr rfl) (by decide) (by decide) (by exact rfl))
   |(apply CF;first|exact W.func0|exact W.func1 AB rfl|exact W.func2 AB AB rfl|exact W.func3 AB AB AB rfl|exact W.func4 AB AB AB AB rfl|exact W.func5 AB AB AB AB AB rfl|exact W.func6 AB AB AB AB AB AB rfl|exact W.func7 AB AB AB AB AB AB AB rfl)
   |(apply Do;first|exact W.pickF AB AB (by first|rfl|assumption)|exact W.pickT AB AB (by first|rfl|assumption)|exact W.orQ AB AB AB|exact W.andQ AB AB AB|exact W.pickB AB AB AB|exact W.pickP AB AB AB))):Stp c P ⟨dst,op,ty,pos,after,g⟩ T S xs rS v wS:=h
theorem EQ(h:Stp c P ⟨dst,op,ty,pos,after,g⟩ T S xs rS v wS:=by(apply E7;exact W.storeN rfl rfl (by exact At.f) (by first|exact rfl|assumption|exact Aq _ (by first|assumption|omega)|exact Aq _ (by(try simp);omega)) (by exact rfl) (by first|exact HX (by(dsimp only[H1,Ba,over,AV.cells,List.set]);try exact rfl) (by exact rfl)|exact rfl))):Stp c P ⟨dst,op,ty,pos,after,g⟩ T S xs rS v wS:=h
end
section
variable {P:Program}{nt:Nat}{ops:Array Oper}{Q:Exit->St->Prop}{rest:List Oper}{T:List (Nat×AV)}{S:List AA}{xs:List (Operand×AV)}{rS wS:List (Nat×AA)}{v:AV}{op:Op}{ty:TypeId}{pos:String}{after:Array Edge}{dst:Option Tmp}
theorem AOps.go(k:AOps ro P nt ops Q rest ⟨AE T dst v,S⟩)(h:Stp none P ⟨dst,op,ty,pos,after,none⟩ T S xs rS v []:=by exact ER)(hd:AD dst nt=true:=by rfl):AOps ro P nt ops Q (⟨dst,op,ty,pos,after,none⟩::rest) ⟨T,S⟩:=AOps.p h hd k
theorem AOps.goS(k:AOps ro P nt ops Q rest ⟨AE T dst v,AF S wS⟩)(h:Stp none P ⟨dst,op,ty,pos,after,none⟩ T S xs rS v wS:=by exact EQ)(hd:AD dst nt=true:=by rfl):AOps ro P nt ops Q (⟨dst,op,ty,pos,after,none⟩::rest) ⟨T,S⟩:=AOps.s h hd k
theorem AOps.goQ1{g:Nat}{b b':Bool}{t:Nat}(k:AOps ro P nt ops Q rest ⟨AE T dst (.opt (b'==b) v),S⟩)(ht:(ops[g]?).bind (·.dst)=some t:=by rfl)(hv:AI T t=some (.prim (.bool b')):=by rfl)(h:Stp (some [b'==b]) P ⟨dst,op,ty,pos,after,some (g,b)⟩ T S xs rS v []:=by exact BN)(hd:AD dst nt=true:=by rfl)(hos:Ah xs=true:=by exact rfl):AOps ro P nt ops Q (⟨dst,op,ty,pos,after,some (g,b)⟩::rest) ⟨T,S⟩:=AOps.sQ1 h ht hv hd hos k
theorem AOps.goQ2{c1:Bool}{g:Nat}{b b':Bool}{t:Nat}(k:AOps ro P nt ops Q rest ⟨AE T dst (.opt c1 (.opt (b'==b) v)),S⟩)(ht:(ops[g]?).bind (·.dst)=some t:=by rfl)(hv:AI T t=some (.opt c1 (.prim (.bool b'))):=by rfl)(h:Stp (some [c1,b'==b]) P ⟨dst,op,ty,pos,after,some (g,b)⟩ T S xs rS v []:=by exact BN)(hd:AD dst nt=true:=by rfl)(hos:Ah xs=true:=by exact rfl):AOps ro P nt ops Q (⟨dst,op,ty,pos,after,some (g,b)⟩::rest) ⟨T,S⟩:=AOps.sQ2 h ht hv hd hos k
theorem AOps.goQ3{c1 c2:Bool}{g:Nat}{b b':Bool}{t:Nat}(k:AOps ro P nt ops Q rest ⟨AE T dst (.opt c1 (.opt c2 (.opt (b'==b) v))),S⟩)(ht:(ops[g]?).bind (·.dst)=some t:=by rfl)(hv:AI T t=some (.opt c1 (.opt c2 (.prim (.bool b')))):=by rfl)(h:Stp (some [c1,c2,b'==b]) P ⟨dst,op,ty,pos,after,some (g,b)⟩ T S xs rS v []:=by exact BN)(hd:AD dst nt=true:=by rfl)(hos:Ah xs=true:=by exact rfl):AOps ro P nt ops Q (⟨dst,op,ty,pos,after,some (g,b)⟩::rest) ⟨T,S⟩:=AOps.sQ3 h ht hv hd hos k
theorem AOps.goN{g:Nat}{b b':Bool}{t:Nat}(k:AOps ro P nt ops Q rest ⟨AE T dst .dead,S⟩)(ht:(ops[g]?).bind (·.dst)=some t:=by rfl)(hv:AI T t=some (.prim (.bool b')):=by rfl)(hb:b'= !b:=by first|rfl|assumption|(simp only[Bool.not_true,Bool.not_false];assumption))(hd:AD dst nt=true:=by rfl):AOps ro P nt ops Q (⟨dst,op,ty,pos,after,some (g,b)⟩::rest) ⟨T,S⟩:=AOps.sN ht hv hb hd k
theorem HQ{t:TypeId}{x:Operand}{b:AV}(k:AOps ro P nt ops Q rest ⟨AE T dst (.fp b.cells),S⟩)(hx:Rd none T x v:=by rfl)(hs:v.stor=true:=by rfl)[hf:Frz v b](hd:AD dst nt=true:=by rfl):AOps ro P nt ops Q (⟨dst,.box t x,ty,pos,after,none⟩::rest) ⟨T,S⟩:=AOps.p (W.boxF hx hs) hd k
theorem Bi{x0:Operand}{v0:AV}{f:FuncId}{ats:Array TypeId}{r r':AV}(h0:Rd none T x0 v0:=by rfl)(h:PS P f [v0] r)(k:AOps ro P nt ops Q rest ⟨AE T dst r',S⟩)[hf:Frz r r'](ht:AS [(x0,v0)]=true:=by rfl)(hd:AD dst nt=true:=by rfl):AOps ro P nt ops Q (⟨dst,.call ⟨.value (.func f),#[x0],ats⟩,ty,pos,after,none⟩::rest) ⟨T,S⟩:=AOps.p (W.callF1 h0 h ht hf.h) hd k
theorem AOps.c2{x0:Operand}{v0:AV}{x1:Operand}{v1:AV}{f:FuncId}{ats:Array TypeId}{r r':AV}(h0:Rd none T x0 v0:=by rfl)(h1:Rd none T x1 v1:=by rfl)(h:PS P f [v0,v1] r)(k:AOps ro P nt ops Q rest ⟨AE T dst r',S⟩)[hf:Frz r r'](ht:AS [(x0,v0),(x1,v1)]=true:=by rfl)(hd:AD dst nt=true:=by rfl):AOps ro P nt ops Q (⟨dst,.call ⟨.value (.func f),#[x0,x1],ats⟩,ty,pos,after,none⟩::rest) ⟨T,S⟩:=AOps.p (W.callF2 h0 h1 h ht hf.h) hd k
theorem Cv{x0:Operand}{v0:AV}{x1:Operand}{v1:AV}{x2:Operand}{v2:AV}{f:FuncId}{ats:Array TypeId}{r r':AV}{X p:Nat}{o o':AO}(h0:Rd none T x0 v0:=by rfl)(h1:Rd none T x1 v1:=by rfl)(h2:Rd none T x2 v2:=by rfl)(h:PO P f [v0,v1,v2] X o r o')(k:AOps ro P nt ops Q rest ⟨AE T dst r',AF S [(p,(X,o'))]⟩)(hSp:At S p (X,o):=by exact At.f)[hf:Frz r r'](ht:AS [(x0,v0),(x1,v1),(x2,v2)]=true:=by rfl)(hd:AD dst nt=true:=by rfl):AOps ro P nt ops Q (⟨dst,.call ⟨.value (.func f),#[x0,x1,x2],ats⟩,ty,pos,after,none⟩::rest) ⟨T,S⟩:=AOps.s (W.callO3 h0 h1 h2 hSp h ht hf.h) hd k
theorem DN{x0:Operand}{v0:AV}{x1:Operand}{v1:AV}{x2:Operand}{v2:AV}{x3:Operand}{v3:AV}{f:FuncId}{ats:Array TypeId}{r r':AV}{X p:Nat}{o o':AO}(h0:Rd none T x0 v0:=by rfl)(h1:Rd none T x1 v1:=by rfl)(h2:Rd none T x2 v2:=by rfl)(h3:Rd none T x3 v3:=by rfl)(h:PO P f [v0,v1,v2,v3] X o r o')(k:AOps ro P nt ops Q rest ⟨AE T dst r',AF S [(p,(X,o'))]⟩)(hSp:At S p (X,o):=by exact At.f)[hf:Frz r r'](ht:AS [(x0,v0),(x1,v1),(x2,v2),(x3,v3)]=true:=by rfl)(hd:AD dst nt=true:=by rfl):AOps ro P nt ops Q (⟨dst,.call ⟨.value (.func f),#[x0,x1,x2,x3],ats⟩,ty,pos,after,none⟩::rest) ⟨T,S⟩:=AOps.s (W.callO4 h0 h1 h2 h3 hSp h ht hf.h) hd k
end
end
section
variable {ro:Option Nat}
section
variable {P:Program}{nt:Nat}{ops:Array Oper}{Q:Exit->St->Prop}{rest:List Oper}{T:List (Nat×AV)}{S:List AA}{xs:List (Operand×AV)}{rS wS:List (Nat×AA)}{v:AV}{op:Op}{ty:TypeId}{pos:String}{after:Array Edge}{dst:Option Tmp}{l:List Oper}{acc:List Eff}
theorem RGo.go{g:Option (Nat×Bool)}{ts:List Nat}(k:RGo P nt ops l Q rest (acc++[⟨⟨dst,op,ty,pos,after,g⟩,ts++AP xs,rS.map (·.1),v,[]⟩]) ⟨AE T dst v,S⟩)(h:Stp none P ⟨dst,op,ty,pos,after,g⟩ T S xs rS v []:=by exact ER)(hd:AD dst nt=true:=by rfl)(hg:Grd ops T g ts:=by first|exact .none|exact .met rfl rfl (by first|rfl|assumption)):RGo P nt ops l Q (⟨dst,op,ty,pos,after,g⟩::rest) acc ⟨T,S⟩:=HK h hd hg k
theorem RGo.goS{g:Option (Nat×Bool)}{ts:List Nat}(k:RGo P nt ops l Q rest (acc++[⟨⟨dst,op,ty,pos,after,g⟩,ts++AP xs,rS.map (·.1),v,wS⟩]) ⟨AE T dst v,AF S wS⟩)(h:Stp none P ⟨dst,op,ty,pos,after,g⟩ T S xs rS v wS:=by exact EQ)(hd:AD dst nt=true:=by rfl)(hg:Grd ops T g ts:=by first|exact .none|exact .met rfl rfl (by first|rfl|assumption)):RGo P nt ops l Q (⟨dst,op,ty,pos,after,g⟩::rest) acc ⟨T,S⟩:=Fb h hd hg k
theorem RGo.goQ1{g:Nat}{b b':Bool}{t:Nat}(k:RGo P nt ops l Q rest (acc++[⟨⟨dst,op,ty,pos,after,some (g,b)⟩,t::AP xs,rS.map (·.1),(.opt (b'==b) v),[]⟩]) ⟨AE T dst (.opt (b'==b) v),S⟩)(ht:(ops[g]?).bind (·.dst)=some t:=by rfl)(hv:AI T t=some (.prim (.bool b')):=by rfl)(h:Stp (some [b'==b]) P ⟨dst,op,ty,pos,after,some (g,b)⟩ T S xs rS v []:=by exact BN)(hd:AD dst nt=true:=by rfl)(hos:Ah xs=true:=by exact rfl):RGo P nt ops l Q (⟨dst,op,ty,pos,after,some (g,b)⟩::rest) acc ⟨T,S⟩:=RGo.sQ1 h ht hv hd hos k
theorem RGo.goQ2{c1:Bool}{g:Nat}{b b':Bool}{t:Nat}(k:RGo P nt ops l Q rest (acc++[⟨⟨dst,op,ty,pos,after,some (g,b)⟩,t::AP xs,rS.map (·.1),(.opt c1 (.opt (b'==b) v)),[]⟩]) ⟨AE T dst (.opt c1 (.opt (b'==b) v)),S⟩)(ht:(ops[g]?).bind (·.dst)=some t:=by rfl)(hv:AI T t=some (.opt c1 (.prim (.bool b'))):=by rfl)(h:Stp (some [c1,b'==b]) P ⟨dst,op,ty,pos,after,some (g,b)⟩ T S xs rS v []:=by exact BN)(hd:AD dst nt=true:=by rfl)(hos:Ah xs=true:=by exact rfl):RGo P nt ops l Q (⟨dst,op,ty,pos,after,some (g,b)⟩::rest) acc ⟨T,S⟩:=RGo.sQ2 h ht hv hd hos k
theorem RGo.goQ3{c1 c2:Bool}{g:Nat}{b b':Bool}{t:Nat}(k:RGo P nt ops l Q rest (acc++[⟨⟨dst,op,ty,pos,after,some (g,b)⟩,t::AP xs,rS.map (·.1),(.opt c1 (.opt c2 (.opt (b'==b) v))),[]⟩]) ⟨AE T dst (.opt c1 (.opt c2 (.opt (b'==b) v))),S⟩)(ht:(ops[g]?).bind (·.dst)=some t:=by rfl)(hv:AI T t=some (.opt c1 (.opt c2 (.prim (.bool b')))):=by rfl)(h:Stp (some [c1,c2,b'==b]) P ⟨dst,op,ty,pos,after,some (g,b)⟩ T S xs rS v []:=by exact BN)(hd:AD dst nt=true:=by rfl)(hos:Ah xs=true:=by exact rfl):RGo P nt ops l Q (⟨dst,op,ty,pos,after,some (g,b)⟩::rest) acc ⟨T,S⟩:=RGo.sQ3 h ht hv hd hos k
theorem RGo.goN{g:Nat}{b b':Bool}{t:Nat}(k:RGo P nt ops l Q rest (acc++[⟨⟨dst,op,ty,pos,after,some (g,b)⟩,[t],[],.dead,[]⟩]) ⟨AE T dst .dead,S⟩)(ht:(ops[g]?).bind (·.dst)=some t:=by rfl)(hv:AI T t=some (.prim (.bool b')):=by rfl)(hb:b'= !b:=by first|rfl|assumption|(simp only[Bool.not_true,Bool.not_false];assumption))(hd:AD dst nt=true:=by rfl):RGo P nt ops l Q (⟨dst,op,ty,pos,after,some (g,b)⟩::rest) acc ⟨T,S⟩:=RGo.sN ht hv hb hd k
theorem Hn{g:Option (Nat×Bool)}{ts:List Nat}(k:RGo P nt ops l Q rest (acc++[⟨⟨dst,op,ty,pos,after,g⟩,ts++AP xs,rS.map (·.1),v,wS⟩]) ⟨AE T dst v,AF S wS⟩)(h:Stp none P ⟨dst,op,ty,pos,after,g⟩ T S xs rS v wS:=by first|(apply Bg;exact W.allocN (by exact At.f) (by first|exact .inl rfl|exact .inr rfl) (by first|(dsimp only[zAV,List.map];try exact rfl)|exact rfl) (by exact rfl))|(apply Stp.g_box;exact W.box rfl (by exact At.f) rfl))(hd:AD dst nt=true:=by rfl)(hg:Grd ops T g ts:=by first|exact .none|exact .met rfl rfl (by first|rfl|assumption)):RGo P nt ops l Q (⟨dst,op,ty,pos,after,g⟩::rest) acc ⟨T,S⟩:=Fb h hd hg k
theorem RGo.c2{g:Option (Nat×Bool)}{ts:List Nat}{x0:Operand}{v0:AV}{x1:Operand}{v1:AV}{f:FuncId}{ats:Array TypeId}{r r':AV}(h0:Rd none T x0 v0:=by rfl)(h1:Rd none T x1 v1:=by rfl)(h:PS P f [v0,v1] r)(k:RGo P nt ops l Q rest (acc++[⟨⟨dst,.call ⟨.value (.func f),#[x0,x1],ats⟩,ty,pos,after,g⟩,ts++AP [(x0,v0),(x1,v1)],[],r',[]⟩]) ⟨AE T dst r',S⟩)[hf:Frz r r'](ht:AS [(x0,v0),(x1,v1)]=true:=by rfl)(hd:AD dst nt=true:=by rfl)(hg:Grd ops T g ts:=by first|exact .none|exact .met rfl rfl (by first|rfl|assumption)):RGo P nt ops l Q (⟨dst,.call ⟨.value (.func f),#[x0,x1],ats⟩,ty,pos,after,g⟩::rest) acc ⟨T,S⟩:=HK (W.callF2 h0 h1 h ht hf.h) hd hg k
end
section
variable {P:Program}{nt:Nat}{ops:Array Oper}{Q:Exit->St->Prop}{rest:List Oper}{T:List (Nat×AV)}{S:List AA}{xs:List (Operand×AV)}{rS wS:List (Nat×AA)}{v:AV}{op:Op}{ty:TypeId}{pos:String}{after:Array Edge}{dst:Option Tmp}
theorem HP{xs:Nat->List (Operand×AV)}{rS wS:Nat->List (Nat×AA)}{v:Nat->AV}(k:∀X,AOps ro P nt ops Q rest ⟨AE T dst (v X),AF ((X,.gone)::S) (wS X)⟩)(h:∀X,Stp none P ⟨dst,op,ty,pos,after,none⟩ T ((X,.gone)::S) (xs X) (rS X) (v X) (wS X):=by(intro X;first|(apply Bg;exact W.allocN .here (by first|exact .inl rfl|exact .inr rfl) (by first|(dsimp only[zAV,List.map];try exact rfl)|exact rfl) (by exact rfl))|(apply Stp.g_box;exact W.box rfl .here rfl)))(hd:AD dst nt=true:=by rfl):AOps ro P nt ops Q (⟨dst,op,ty,pos,after,none⟩::rest) ⟨T,S⟩:=AOps.rs λX=>AOps.s (h X) hd (k X)
end
section
variable {P:Program}{nt:Nat}{ops:Array Oper}{Q:Exit->St->Prop}{rest:List Oper}{T:List (Nat×AV)}{S:List AA}{l ls:List AV}{ty t t' te:TypeId}{sz X p q:Nat}{x y:Operand}{pos:String}{after:Array Edge}{dst:Option Tmp}
theorem Hk{m b:Nat}(h:m<=1099511627776)(hb:b<=128):m*b<=140737488355328:=Nat.le_trans (Nat.mul_le_mul h hb) (by decide)
theorem IK{m b:Nat}(h:m*b<=140737488355328)(hb:0<b):m<=maxLen:=Nat.le_trans (Nat.le_trans (Nat.le_mul_of_pos_right m hb) h) (by decide)
theorem AOps.goA{m by_:Nat}[TRo P t te sz by_](k:∀Y,AOps ro P nt ops Q rest ⟨AE T dst (.sl Y 0 (m+ls.length)),S.set p (Y,.row te sz (l++ls))⟩)(hx:Rd none T x (.sl X 0 m):=by rfl)(hy:Rd none T y (.lst false t' sz ls):=by rfl)(hSp:At S p (X,.row te sz l):=by exact At.f)(hn:m=l.length:=by first|rfl|assumption|omega|(simp;omega)|simp[*])(hb:(m+ls.length)*by_<=140737488355328:=by first|assumption|exact Hk (by first|assumption|omega|(simp;omega)) (by decide)|omega|(simp;omega))(hby:0<by_:=by decide)(hd:AD dst nt=true:=by rfl):AOps ro P nt ops Q (⟨dst,.call ⟨.builtin .append,#[x,y],#[t,t]⟩,ty,pos,after,none⟩::rest) ⟨T,S⟩:=by
 subst hn;refine AOps.rs λY=>AOps.s (W.app (q:=0) (p:=p+1) (X:=X) (Y:=Y) hx hy .here (.next hSp) rfl hb (IK hb hby) (by simp)) hd (AOps.sub ?_ (k Y))
 ·exact .cons _ (.refl _)
theorem RGo.goA{l0:List Oper}{acc:List Eff}{m by_ Y:Nat}[TRo P t te sz by_](k:RGo P nt ops l0 Q rest (acc++[⟨⟨dst,.call ⟨.builtin .append,#[x,y],#[t,t]⟩,ty,pos,after,none⟩,AP [(x,.sl X 0 m),(y,.lst false t' sz ls)],[q,p],.sl Y 0 (m+ls.length),[(q,(X,.used)),(p,(Y,.row te sz (l++ls)))]⟩]) ⟨AE T dst (.sl Y 0 (m+ls.length)),AF S [(q,(X,.used)),(p,(Y,.row te sz (l++ls)))]⟩)(hx:Rd none T x (.sl X 0 m):=by rfl)(hy:Rd none T y (.lst false t' sz ls):=by rfl)(hSq:At S q (Y,.gone):=by exact At.f)(hSp:At S p (X,.row te sz l):=by exact At.f)(hn:m=l.length:=by first|rfl|assumption|omega|(simp;omega)|simp[*])(hb:(m+ls.length)*by_<=140737488355328:=by first|assumption|exact Hk (by first|assumption|omega|(simp;omega)) (by decide)|omega|(simp;omega))(hqp:q≠p:=by decide)(hby:0<by_:=by decide)(hd:AD dst nt=true:=by rfl):RGo P nt ops l0 Q (⟨dst,.call ⟨.builtin .append,#[x,y],#[t,t]⟩,ty,pos,after,none⟩::rest) acc ⟨T,S⟩:=by
 subst hn;exact RGo.s (W.app hx hy hSq hSp rfl hb (IK hb hby) hqp) hd k
theorem AOps.goL{zl:List Value}{ag:Bool}(v:AV)(k:AOps ro P nt ops Q rest ⟨AE T dst (.lst false te sz [v]),S⟩)[TEl P t te][TZe P te zl][TSize P te sz][TAg P te ag][hz:Frz v v](h0:Rd none T x v:=by exact rfl)(hzs:zl.length=sz:=by exact rfl)(hag:ag=true\/zl.length=1:=by first|exact .inl rfl|exact .inr rfl)(hn:1*sz<=16777216:=by decide)(hpos:0<1*sz:=by decide)(hf:BE sz (List.replicate 1 (zAV zl ag)) [(0,v)]=some [v]:=by exact rfl)(hd:AD dst nt=true:=by rfl):AOps ro P nt ops Q (⟨dst,.buildSlice t 1 #[(0,x)],ty,pos,after,none⟩::rest) ⟨T,S⟩:=
 AOps.p (W.litF1 h0 hzs hag hn hpos hf) hd k
theorem RGo.goL{l0:List Oper}{acc:List Eff}{zl:List Value}{ag:Bool}(v:AV)(k:RGo P nt ops l0 Q rest (acc++[⟨⟨dst,.buildSlice t 1 #[(0,x)],ty,pos,after,none⟩,AP [(x,v)],[],.lst false te sz [v],[]⟩]) ⟨AE T dst (.lst false te sz [v]),S⟩)[TEl P t te][TZe P te zl][TSize P te sz][TAg P te ag][hz:Frz v v](h0:Rd none T x v:=by exact rfl)(hzs:zl.length=sz:=by exact rfl)(hag:ag=true\/zl.length=1:=by first|exact .inl rfl|exact .inr rfl)(hn:1*sz<=16777216:=by decide)(hpos:0<1*sz:=by decide)(hf:BE sz (List.replicate 1 (zAV zl ag)) [(0,v)]=some [v]:=by exact rfl)(hd:AD dst nt=true:=by rfl):RGo P nt ops l0 Q (⟨dst,.buildSlice t 1 #[(0,x)],ty,pos,after,none⟩::rest) acc ⟨T,S⟩:=
 RGo.p (W.litF1 h0 hzs hag hn hpos hf) hd k
theorem AOps.g_lit{n:Nat}{ar:Array (Nat×Operand)}{st:St}{g:Option (Nat×Bool)}(k:AOps ro P nt ops Q (⟨dst,.buildSlice t n ar,ty,pos,after,g⟩::rest) st):AOps ro P nt ops Q (⟨dst,.buildSlice t n ar,ty,pos,after,g⟩::rest) st:=k
theorem RGo.g_lit{l0:List Oper}{acc:List Eff}{n:Nat}{ar:Array (Nat×Operand)}{st:St}{g:Option (Nat×Bool)}(k:RGo P nt ops l0 Q (⟨dst,.buildSlice t n ar,ty,pos,after,g⟩::rest) acc st):RGo P nt ops l0 Q (⟨dst,.buildSlice t n ar,ty,pos,after,g⟩::rest) acc st:=k
theorem AOps.g_callf{f:FuncId}{xs:Array Operand}{ats:Array TypeId}{st:St}{g:Option (Nat×Bool)}(k:AOps ro P nt ops Q (⟨dst,.call ⟨.value (.func f),xs,ats⟩,ty,pos,after,g⟩::rest) st):AOps ro P nt ops Q (⟨dst,.call ⟨.value (.func f),xs,ats⟩,ty,pos,after,g⟩::rest) st:=k
theorem RGo.g_callf{l0:List Oper}{acc:List Eff}{f:FuncId}{xs:Array Operand}{ats:Array TypeId}{st:St}{g:Option (Nat×Bool)}(k:RGo P nt ops l0 Q (⟨dst,.call ⟨.value (.func f),xs,ats⟩,ty,pos,after,g⟩::rest) acc st):RGo P nt ops l0 Q (⟨dst,.call ⟨.value (.func f),xs,ats⟩,ty,pos,after,g⟩::rest) acc st:=k
end
section
variable {P:Program}{nt:Nat}{ops:Array Oper}{Q:Exit->St->Prop}{l rest:List Oper}{acc:List Eff}{st:St}{op:Op}{ty:TypeId}{pos:String}{after:Array Edge}{dst:Option Tmp}
theorem AOps.gN(k:AOps ro P nt ops Q (⟨dst,op,ty,pos,after,none⟩::rest) st):AOps ro P nt ops Q (⟨dst,op,ty,pos,after,none⟩::rest) st:=k
theorem RGo.gN(k:RGo P nt ops l Q (⟨dst,op,ty,pos,after,none⟩::rest) acc st):RGo P nt ops l Q (⟨dst,op,ty,pos,after,none⟩::rest) acc st:=k
end
theorem BY{P:Program}{nt:Nat}{Q:Exit->St->Prop}{c:Code}{st:St}{β:Type}(inv:β->St)(R:β->Prop)(μ:β->Nat)(b0:β)(hR:R b0)(round:∀b,R b->AWP ro P nt c (andThen (λst'=>∃b',R b' /\μ b'<μ b/\st'.Le (inv b')) Q) (inv b))(h0:st.Le (inv b0):=by exact⟨by exact Lk.f,by exact Sub.f⟩):AWP ro P nt (.loop c) Q st:=CR inv R μ b0 hR h0 round
theorem ET{P:Program}{nt:Nat}{Q:Exit->St->Prop}{c:Code}{st:St}(T:List (Nat×AV))(S:List AA)(k:AWP ro P nt c Q ⟨T,S⟩)(h:st.Le ⟨T,S⟩:=by exact⟨by exact Lk.f,by exact Sub.f⟩):AWP ro P nt c Q st:=AWP.weak h k
theorem BA{β:Type}{R:β->Prop}{μ:β->Nat}{m:Nat}{inv:β->St}{st:St}(b':β)(hR:R b')(hμ:μ b'<m:=by omega)(h0:st.Le (inv b'):=by exact⟨by exact Lk.f,by exact Sub.f⟩):∃b',R b' /\μ b'<m/\st.Le (inv b'):=⟨b',hR,hμ,h0⟩
theorem BP{P:Program}{nt:Nat}{Q:Exit->St->Prop}{c:Code}{st:St}{β0 β1:Type}(inv:β0->β1->St)(R:β0->β1->Prop)(μ:β0->β1->Nat)(c0:β0)(c1:β1)(hR:R c0 c1)(round:∀b0 b1,R b0 b1->AWP ro P nt c (andThen (λst'=>∃b0' b1',R b0' b1' /\μ b0' b1'<μ b0 b1/\st'.Le (inv b0' b1')) Q) (inv b0 b1))(h0:st.Le (inv c0 c1):=by exact⟨by exact Lk.f,by exact Sub.f⟩):AWP ro P nt (.loop c) Q st:=
 CR (β:=β0×β1) (λb=>inv b.1 b.2) (λb=>R b.1 b.2) (λb=>μ b.1 b.2) (c0,c1) hR h0 λb hb=>(round b.1 b.2 hb).mono λe st' h=>by
  cases e with
  |normal=>obtain⟨b0',b1',h1,h2,h3⟩:=h;exact⟨(b0',b1'),h1,h2,h3⟩
  |_=>exact h
theorem Aw{β0 β1:Type}{R:β0->β1->Prop}{μ:β0->β1->Nat}{m:Nat}{inv:β0->β1->St}{st:St}(b0':β0)(b1':β1)(hR:R b0' b1')(hμ:μ b0' b1'<m:=by omega)(h0:st.Le (inv b0' b1'):=by exact⟨by exact Lk.f,by exact Sub.f⟩):∃b0' b1',R b0' b1' /\μ b0' b1'<m/\st.Le (inv b0' b1'):=⟨b0',b1',hR,hμ,h0⟩
theorem Bw{P:Program}{nt:Nat}{Q:Exit->St->Prop}{c:Code}{st:St}{β0 β1 β2:Type}(inv:β0->β1->β2->St)(R:β0->β1->β2->Prop)(μ:β0->β1->β2->Nat)(c0:β0)(c1:β1)(c2:β2)(hR:R c0 c1 c2)(round:∀b0 b1 b2,R b0 b1 b2->AWP ro P nt c (andThen (λst'=>∃b0' b1' b2',R b0' b1' b2' /\μ b0' b1' b2'<μ b0 b1 b2/\st'.Le (inv b0' b1' b2')) Q) (inv b0 b1 b2))(h0:st.Le (inv c0 c1 c2):=by exact⟨by exact Lk.f,by exact Sub.f⟩):AWP ro P nt (.loop c) Q st:=
 CR (β:=β0×β1×β2) (λb=>inv b.1 b.2.1 b.2.2) (λb=>R b.1 b.2.1 b.2.2) (λb=>μ b.1 b.2.1 b.2.2) (c0,c1,c2) hR h0 λb hb=>(round b.1 b.2.1 b.2.2 hb).mono λe st' h=>by
  cases e with
  |normal=>obtain⟨b0',b1',b2',h1,h2,h3⟩:=h;exact⟨(b0',b1',b2'),h1,h2,h3⟩
  |_=>exact h
theorem BM{β0 β1 β2:Type}{R:β0->β1->β2->Prop}{μ:β0->β1->β2->Nat}{m:Nat}{inv:β0->β1->β2->St}{st:St}(b0':β0)(b1':β1)(b2':β2)(hR:R b0' b1' b2')(hμ:μ b0' b1' b2'<m:=by omega)(h0:st.Le (inv b0' b1' b2'):=by exact⟨by exact Lk.f,by exact Sub.f⟩):∃b0' b1' b2',R b0' b1' b2' /\μ b0' b1' b2'<m/\st.Le (inv b0' b1' b2'):=⟨b0',b1',b2',hR,hμ,h0⟩
theorem Hp{P:Program}{nt:Nat}{Q:Exit->St->Prop}{c:Code}{st:St}{β0 β1 β2 β3 β4 β5:Type}(inv:β0->β1->β2->β3->β4->β5->St)(R:β0->β1->β2->β3->β4->β5->Prop)(μ:β0->β1->β2->β3->β4->β5->Nat)(c0:β0)(c1:β1)(c2:β2)(c3:β3)(c4:β4)(c5:β5)(hR:R c0 c1 c2 c3 c4 c5)(round:∀b0 b1 b2 b3 b4 b5,R b0 b1 b2 b3 b4 b5->AWP ro P nt c (andThen (λst'=>∃b0' b1' b2' b3' b4' b5',R b0' b1' b2' b3' b4' b5' /\μ b0' b1' b2' b3' b4' b5'<μ b0 b1 b2 b3 b4 b5/\st'.Le (inv b0' b1' b2' b3' b4' b5')) Q) (inv b0 b1 b2 b3 b4 b5))(h0:st.Le (inv c0 c1 c2 c3 c4 c5):=by exact⟨by exact Lk.f,by exact Sub.f⟩):AWP ro P nt (.loop c) Q st:=
 CR (β:=β0×β1×β2×β3×β4×β5) (λb=>inv b.1 b.2.1 b.2.2.1 b.2.2.2.1 b.2.2.2.2.1 b.2.2.2.2.2) (λb=>R b.1 b.2.1 b.2.2.1 b.2.2.2.1 b.2.2.2.2.1 b.2.2.2.2.2) (λb=>μ b.1 b.2.1 b.2.2.1 b.2.2.2.1 b.2.2.2.2.1 b.2.2.2.2.2) (c0,c1,c2,c3,c4,c5) hR h0 λb hb=>(round b.1 b.2.1 b.2.2.1 b.2.2.2.1 b.2.2.2.2.1 b.2.2.2.2.2 hb).mono λe st' h=>by
  cases e with
  |normal=>obtain⟨b0',b1',b2',b3',b4',b5',h1,h2,h3⟩:=h;exact⟨(b0',b1',b2',b3',b4',b5'),h1,h2,h3⟩
  |_=>exact h
theorem Dc{β0 β1 β2 β3 β4 β5:Type}{R:β0->β1->β2->β3->β4->β5->Prop}{μ:β0->β1->β2->β3->β4->β5->Nat}{m:Nat}{inv:β0->β1->β2->β3->β4->β5->St}{st:St}(b0':β0)(b1':β1)(b2':β2)(b3':β3)(b4':β4)(b5':β5)(hR:R b0' b1' b2' b3' b4' b5')(hμ:μ b0' b1' b2' b3' b4' b5'<m:=by omega)(h0:st.Le (inv b0' b1' b2' b3' b4' b5'):=by exact⟨by exact Lk.f,by exact Sub.f⟩):∃b0' b1' b2' b3' b4' b5',R b0' b1' b2' b3' b4' b5' /\μ b0' b1' b2' b3' b4' b5'<m/\st.Le (inv b0' b1' b2' b3' b4' b5'):=⟨b0',b1',b2',b3',b4',b5',hR,hμ,h0⟩
theorem BC{P:Program}{t:Nat}{Sf:List AA}{st:St}{a r:AV}(e:a=r)(h:AI st.T t=some a:=by rfl)(ha:ntup a=true:=by rfl)(hS:Sf.Sublist st.S:=by exact Sub.f):Ends P [.tmp t] Sf (λr' S'=>r'=r/\S'=[]) st:=Cj h ha hS ⟨e,rfl⟩
theorem HM(S:List AA):∀as:List AV,CVs S as as S
 |[]=>.nil
 |_::as=>.cons (.cell .same) (HM S as)
theorem AOps.met{P:Program}{nt:Nat}{ops:Array Oper}{Q:Exit->St->Prop}{rest:List Oper}{st:St}{op:Op}{ty:TypeId}{pos:String}{after:Array Edge}{dst:Option Tmp}{g:Nat}{b b':Bool}{t:Nat}(k:AOps ro P nt ops Q (⟨dst,op,ty,pos,after,none⟩::rest) st)(ht:(ops[g]?).bind (·.dst)=some t:=by rfl)(hv:AI st.T t=some (.prim (.bool b')):=by rfl)(hb:b'=b:=by first|rfl|assumption):AOps ro P nt ops Q (⟨dst,op,ty,pos,after,some (g,b)⟩::rest) st:=by
 intro m0 a w hr;have h:=k m0 a w hr
 have hy:yielded ops a.tmps g=some b:=by
  obtain⟨m,N,Z,h1,h2,h3,h4,h5,h6⟩:=hr;obtain⟨u,hu1,hu2⟩:=h6 t _ hv;obtain⟨⟨e,_⟩,_⟩:=hu2;injection e with e
  subst e hb;simp[yielded,ht,hu1]
 unfold wpListIn at h⊢;rw[if_pos (by simp[Region.wanted])]at h;rw[if_pos (by simp[Region.wanted,hy])];exact h
structure All(p:Nat->Prop):Prop where
 i::
 h:∀X,p X
structure AllY(p:Nat->Prop):Prop where
 i::
 h:∀X,p X
section
variable {P:Program}{nt:Nat}{ops:Array Oper}{Q:Exit->St->Prop}{rest:List Oper}{T:List (Nat×AV)}{S:List AA}{xs:List (Operand×AV)}{rS wS:List (Nat×AA)}{v:AV}{op:Op}{ty:TypeId}{pos:String}{after:Array Edge}{dst:Option Tmp}{t t2 t' te:TypeId}{x y z:Operand}{g:Option (Nat×Bool)}{st:St}{c:Code}{l ls:List AV}{sz X p q:Nat}
theorem EF{xs:Nat->List (Operand×AV)}{rS wS:Nat->List (Nat×AA)}{v:Nat->AV}(h:∀X,Stp none P ⟨dst,op,ty,pos,after,none⟩ T ((X,.gone)::S) (xs X) (rS X) (v X) (wS X):=by(intro X;first|(apply Bg;exact W.allocN .here (by first|exact .inl rfl|exact .inr rfl) (by first|(dsimp only[zAV,List.map];try exact rfl)|exact rfl) (by exact rfl))|(apply Stp.g_box;exact W.box rfl .here rfl)))(hd:AD dst nt=true:=by rfl):(All λX=>AOps ro P nt ops Q rest ⟨AE T dst (v X),AF ((X,.gone)::S) (wS X)⟩)->AOps ro P nt ops Q (⟨dst,op,ty,pos,after,none⟩::rest) ⟨T,S⟩:=λk=>HP k.h h hd
theorem Ga{m by_:Nat}[TRo P t te sz by_](hx:Rd none T x (.sl X 0 m):=by rfl)(hy:Rd none T y (.lst false t' sz ls):=by rfl)(hSp:At S p (X,.row te sz l):=by exact At.f)(hn:m=l.length:=by first|rfl|assumption|omega|(simp;omega)|simp[*])(hb:(m+ls.length)*by_<=140737488355328:=by first|assumption|exact Hk (by first|assumption|omega|(simp;omega)) (by decide)|omega|(simp;omega))(hby:0<by_:=by decide)(hd:AD dst nt=true:=by rfl):(AllY λY=>AOps ro P nt ops Q rest ⟨AE T dst (.sl Y 0 (m+ls.length)),S.set p (Y,.row te sz (l++ls))⟩)->AOps ro P nt ops Q (⟨dst,.call ⟨.builtin .append,#[x,y],#[t,t]⟩,ty,pos,after,none⟩::rest) ⟨T,S⟩:=λk=>AOps.goA k.h hx hy hSp hn hb hby hd
end
section
variable {P:Program}{nt:Nat}{ops:Array Oper}{Q:Exit->St->Prop}{rest:List Oper}{T:List (Nat×AV)}{S:List AA}{xs:List (Operand×AV)}{rS wS:List (Nat×AA)}{v:AV}{op:Op}{ty:TypeId}{pos:String}{after:Array Edge}{dst:Option Tmp}{t t2 t' te:TypeId}{x y z:Operand}{g:Option (Nat×Bool)}{st:St}{c:Code}{l ls:List AV}{sz X p q:Nat}
theorem AOps.go_(h:Stp none P ⟨dst,op,ty,pos,after,none⟩ T S xs rS v []:=by exact ER)(hd:AD dst nt=true:=by rfl):(AOps ro P nt ops Q rest ⟨AE T dst v,S⟩)->AOps ro P nt ops Q (⟨dst,op,ty,pos,after,none⟩::rest) ⟨T,S⟩:=λk=>AOps.go (k:=k) (h:=h) (hd:=hd)
theorem AOps.goS_(h:Stp none P ⟨dst,op,ty,pos,after,none⟩ T S xs rS v wS:=by exact EQ)(hd:AD dst nt=true:=by rfl):(AOps ro P nt ops Q rest ⟨AE T dst v,AF S wS⟩)->AOps ro P nt ops Q (⟨dst,op,ty,pos,after,none⟩::rest) ⟨T,S⟩:=λk=>AOps.goS (k:=k) (h:=h) (hd:=hd)
theorem GY{P:Program}{nt:Nat}{ops:Array Oper}{Q:Exit->St->Prop}{rest:List Oper}{st:St}{op:Op}{ty:TypeId}{pos:String}{after:Array Edge}{dst:Option Tmp}{g:Nat}{b b':Bool}{t:Nat}(ht:(ops[g]?).bind (·.dst)=some t:=by rfl)(hv:AI st.T t=some (.prim (.bool b')):=by rfl)(hb:b'=b:=by first|rfl|assumption):(AOps ro P nt ops Q (⟨dst,op,ty,pos,after,none⟩::rest) st)->AOps ro P nt ops Q (⟨dst,op,ty,pos,after,some (g,b)⟩::rest) st:=λk=>AOps.met (k:=k) (ht:=ht) (hv:=hv) (hb:=hb)
theorem AOps.goN_{g:Nat}{b b':Bool}{t:Nat}(ht:(ops[g]?).bind (·.dst)=some t:=by rfl)(hv:AI T t=some (.prim (.bool b')):=by rfl)(hb:b'= !b:=by first|rfl|assumption|(simp only[Bool.not_true,Bool.not_false];assumption))(hd:AD dst nt=true:=by rfl):(AOps ro P nt ops Q rest ⟨AE T dst .dead,S⟩)->AOps ro P nt ops Q (⟨dst,op,ty,pos,after,some (g,b)⟩::rest) ⟨T,S⟩:=λk=>AOps.goN (k:=k) (ht:=ht) (hv:=hv) (hb:=hb) (hd:=hd)
theorem AOps.goQ1_{g:Nat}{b b':Bool}{t:Nat}(ht:(ops[g]?).bind (·.dst)=some t:=by rfl)(hv:AI T t=some (.prim (.bool b')):=by rfl)(h:Stp (some [b'==b]) P ⟨dst,op,ty,pos,after,some (g,b)⟩ T S xs rS v []:=by exact BN)(hd:AD dst nt=true:=by rfl)(hos:Ah xs=true:=by exact rfl):(AOps ro P nt ops Q rest ⟨AE T dst (.opt (b'==b) v),S⟩)->AOps ro P nt ops Q (⟨dst,op,ty,pos,after,some (g,b)⟩::rest) ⟨T,S⟩:=λk=>AOps.goQ1 (k:=k) (ht:=ht) (hv:=hv) (h:=h) (hd:=hd) (hos:=hos)
theorem AOps.goQ2_{c1:Bool}{g:Nat}{b b':Bool}{t:Nat}(ht:(ops[g]?).bind (·.dst)=some t:=by rfl)(hv:AI T t=some (.opt c1 (.prim (.bool b'))):=by rfl)(h:Stp (some [c1,b'==b]) P ⟨dst,op,ty,pos,after,some (g,b)⟩ T S xs rS v []:=by exact BN)(hd:AD dst nt=true:=by rfl)(hos:Ah xs=true:=by exact rfl):(AOps ro P nt ops Q rest ⟨AE T dst (.opt c1 (.opt (b'==b) v)),S⟩)->AOps ro P nt ops Q (⟨dst,op,ty,pos,after,some (g,b)⟩::rest) ⟨T,S⟩:=λk=>AOps.goQ2 (k:=k) (ht:=ht) (hv:=hv) (h:=h) (hd:=hd) (hos:=hos)
theorem AOps.goQ3_{c1 c2:Bool}{g:Nat}{b b':Bool}{t:Nat}(ht:(ops[g]?).bind (·.dst)=some t:=by rfl)(hv:AI T t=some (.opt c1 (.opt c2 (.prim (.bool b')))):=by rfl)(h:Stp (some [c1,c2,b'==b]) P ⟨dst,op,ty,pos,after,some (g,b)⟩ T S xs rS v []:=by exact BN)(hd:AD dst nt=true:=by rfl)(hos:Ah xs=true:=by exact rfl):(AOps ro P nt ops Q rest ⟨AE T dst (.opt c1 (.opt c2 (.opt (b'==b) v))),S⟩)->AOps ro P nt ops Q (⟨dst,op,ty,pos,after,some (g,b)⟩::rest) ⟨T,S⟩:=λk=>AOps.goQ3 (k:=k) (ht:=ht) (hv:=hv) (h:=h) (hd:=hd) (hos:=hos)
end
section
variable {P:Program}{nt:Nat}{ops:Array Oper}{Q:Exit->St->Prop}{rest:List Oper}{T:List (Nat×AV)}{S:List AA}{xs:List (Operand×AV)}{rS wS:List (Nat×AA)}{v:AV}{op:Op}{ty:TypeId}{pos:String}{after:Array Edge}{dst:Option Tmp}{t t2 t' te:TypeId}{x y z:Operand}{st:St}{c:Code}{l:List Oper}{acc:List Eff}
theorem RGo.go_{g:Option (Nat×Bool)}{ts:List Nat}(h:Stp none P ⟨dst,op,ty,pos,after,g⟩ T S xs rS v []:=by exact ER)(hd:AD dst nt=true:=by rfl)(hg:Grd ops T g ts:=by first|exact .none|exact .met rfl rfl (by first|rfl|assumption)):(RGo P nt ops l Q rest (acc++[⟨⟨dst,op,ty,pos,after,g⟩,ts++AP xs,rS.map (·.1),v,[]⟩]) ⟨AE T dst v,S⟩)->RGo P nt ops l Q (⟨dst,op,ty,pos,after,g⟩::rest) acc ⟨T,S⟩:=λk=>RGo.go (k:=k) (h:=h) (hd:=hd) (hg:=hg)
theorem RGo.goS_{g:Option (Nat×Bool)}{ts:List Nat}(h:Stp none P ⟨dst,op,ty,pos,after,g⟩ T S xs rS v wS:=by exact EQ)(hd:AD dst nt=true:=by rfl)(hg:Grd ops T g ts:=by first|exact .none|exact .met rfl rfl (by first|rfl|assumption)):(RGo P nt ops l Q rest (acc++[⟨⟨dst,op,ty,pos,after,g⟩,ts++AP xs,rS.map (·.1),v,wS⟩]) ⟨AE T dst v,AF S wS⟩)->RGo P nt ops l Q (⟨dst,op,ty,pos,after,g⟩::rest) acc ⟨T,S⟩:=λk=>RGo.goS (k:=k) (h:=h) (hd:=hd) (hg:=hg)
theorem RGo.goN_{g:Nat}{b b':Bool}{t:Nat}(ht:(ops[g]?).bind (·.dst)=some t:=by rfl)(hv:AI T t=some (.prim (.bool b')):=by rfl)(hb:b'= !b:=by first|rfl|assumption|(simp only[Bool.not_true,Bool.not_false];assumption))(hd:AD dst nt=true:=by rfl):(RGo P nt ops l Q rest (acc++[⟨⟨dst,op,ty,pos,after,some (g,b)⟩,[t],[],.dead,[]⟩]) ⟨AE T dst .dead,S⟩)->RGo P nt ops l Q (⟨dst,op,ty,pos,after,some (g,b)⟩::rest) acc ⟨T,S⟩:=λk=>RGo.goN (k:=k) (ht:=ht) (hv:=hv) (hb:=hb) (hd:=hd)
theorem RGo.goQ1_{g:Nat}{b b':Bool}{t:Nat}(ht:(ops[g]?).bind (·.dst)=some t:=by rfl)(hv:AI T t=some (.prim (.bool b')):=by rfl)(h:Stp (some [b'==b]) P ⟨dst,op,ty,pos,after,some (g,b)⟩ T S xs rS v []:=by exact BN)(hd:AD dst nt=true:=by rfl)(hos:Ah xs=true:=by exact rfl):(RGo P nt ops l Q rest (acc++[⟨⟨dst,op,ty,pos,after,some (g,b)⟩,t::AP xs,rS.map (·.1),(.opt (b'==b) v),[]⟩]) ⟨AE T dst (.opt (b'==b) v),S⟩)->RGo P nt ops l Q (⟨dst,op,ty,pos,after,some (g,b)⟩::rest) acc ⟨T,S⟩:=λk=>RGo.goQ1 (k:=k) (ht:=ht) (hv:=hv) (h:=h) (hd:=hd) (hos:=hos)
theorem RGo.goQ2_{c1:Bool}{g:Nat}{b b':Bool}{t:Nat}(ht:(ops[g]?).bind (·.dst)=some t:=by rfl)(hv:AI T t=some (.opt c1 (.prim (.bool b'))):=by rfl)(h:Stp (some [c1,b'==b]) P ⟨dst,op,ty,pos,after,some (g,b)⟩ T S xs rS v []:=by exact BN)(hd:AD dst nt=true:=by rfl)(hos:Ah xs=true:=by exact rfl):(RGo P nt ops l Q rest (acc++[⟨⟨dst,op,ty,pos,after,some (g,b)⟩,t::AP xs,rS.map (·.1),(.opt c1 (.opt (b'==b) v)),[]⟩]) ⟨AE T dst (.opt c1 (.opt (b'==b) v)),S⟩)->RGo P nt ops l Q (⟨dst,op,ty,pos,after,some (g,b)⟩::rest) acc ⟨T,S⟩:=λk=>RGo.goQ2 (k:=k) (ht:=ht) (hv:=hv) (h:=h) (hd:=hd) (hos:=hos)
theorem RGo.goQ3_{c1 c2:Bool}{g:Nat}{b b':Bool}{t:Nat}(ht:(ops[g]?).bind (·.dst)=some t:=by rfl)(hv:AI T t=some (.opt c1 (.opt c2 (.prim (.bool b')))):=by rfl)(h:Stp (some [c1,c2,b'==b]) P ⟨dst,op,ty,pos,after,some (g,b)⟩ T S xs rS v []:=by exact BN)(hd:AD dst nt=true:=by rfl)(hos:Ah xs=true:=by exact rfl):(RGo P nt ops l Q rest (acc++[⟨⟨dst,op,ty,pos,after,some (g,b)⟩,t::AP xs,rS.map (·.1),(.opt c1 (.opt c2 (.opt (b'==b) v))),[]⟩]) ⟨AE T dst (.opt c1 (.opt c2 (.opt (b'==b) v))),S⟩)->RGo P nt ops l Q (⟨dst,op,ty,pos,after,some (g,b)⟩::rest) acc ⟨T,S⟩:=λk=>RGo.goQ3 (k:=k) (ht:=ht) (hv:=hv) (h:=h) (hd:=hd) (hos:=hos)
theorem Cq{g:Option (Nat×Bool)}{ts:List Nat}(h:Stp none P ⟨dst,op,ty,pos,after,g⟩ T S xs rS v wS:=by first|(apply Bg;exact W.allocN (by exact At.f) (by first|exact .inl rfl|exact .inr rfl) (by first|(dsimp only[zAV,List.map];try exact rfl)|exact rfl) (by exact rfl))|(apply Stp.g_box;exact W.box rfl (by exact At.f) rfl))(hd:AD dst nt=true:=by rfl)(hg:Grd ops T g ts:=by first|exact .none|exact .met rfl rfl (by first|rfl|assumption)):(RGo P nt ops l Q rest (acc++[⟨⟨dst,op,ty,pos,after,g⟩,ts++AP xs,rS.map (·.1),v,wS⟩]) ⟨AE T dst v,AF S wS⟩)->RGo P nt ops l Q (⟨dst,op,ty,pos,after,g⟩::rest) acc ⟨T,S⟩:=λk=>Hn (k:=k) (h:=h) (hd:=hd) (hg:=hg)
end
section
variable {P:Program}{nt:Nat}{ops:Array Oper}{Q:Exit->St->Prop}{rest:List Oper}{T:List (Nat×AV)}{S:List AA}{xs:List (Operand×AV)}{rS wS:List (Nat×AA)}{v:AV}{op:Op}{ty:TypeId}{pos:String}{after:Array Edge}{dst:Option Tmp}{t t2 t' te:TypeId}{x y z:Operand}{st:St}{c:Code}{l ls:List AV}{sz X p q:Nat}
theorem E8{l0:List Oper}{acc:List Eff}{m by_ Y:Nat}[TRo P t te sz by_](hx:Rd none T x (.sl X 0 m):=by rfl)(hy:Rd none T y (.lst false t' sz ls):=by rfl)(hSq:At S q (Y,.gone):=by exact At.f)(hSp:At S p (X,.row te sz l):=by exact At.f)(hn:m=l.length:=by first|rfl|assumption|omega|(simp;omega)|simp[*])(hb:(m+ls.length)*by_<=140737488355328:=by first|assumption|exact Hk (by first|assumption|omega|(simp;omega)) (by decide)|omega|(simp;omega))(hqp:q≠p:=by decide)(hby:0<by_:=by decide)(hd:AD dst nt=true:=by rfl):(RGo P nt ops l0 Q rest (acc++[⟨⟨dst,.call ⟨.builtin .append,#[x,y],#[t,t]⟩,ty,pos,after,none⟩,AP [(x,.sl X 0 m),(y,.lst false t' sz ls)],[q,p],.sl Y 0 (m+ls.length),[(q,(X,.used)),(p,(Y,.row te sz (l++ls)))]⟩]) ⟨AE T dst (.sl Y 0 (m+ls.length)),AF S [(q,(X,.used)),(p,(Y,.row te sz (l++ls)))]⟩)->RGo P nt ops l0 Q (⟨dst,.call ⟨.builtin .append,#[x,y],#[t,t]⟩,ty,pos,after,none⟩::rest) acc ⟨T,S⟩:=λk=>RGo.goA (k:=k) (hx:=hx) (hy:=hy) (hSq:=hSq) (hSp:=hSp) (hn:=hn) (hb:=hb) (hqp:=hqp) (hby:=hby) (hd:=hd)
end
section
variable {P:Program}{nt:Nat}{ops:Array Oper}{Q:Exit->St->Prop}{rest:List Oper}{T:List (Nat×AV)}{S:List AA}{xs:List (Operand×AV)}{rS wS:List (Nat×AA)}{v:AV}{op:Op}{ty:TypeId}{pos:String}{after:Array Edge}{dst:Option Tmp}{t t2 t' te:TypeId}{x y z:Operand}{g:Option (Nat×Bool)}{st:St}{c:Code}{l:List Oper}{acc:List Eff}{B:Prop}{gd:Nat×Bool}
theorem AOps.jN(k:B->AOps ro P nt ops Q (⟨dst,op,ty,pos,after,none⟩::rest) st):B->AOps ro P nt ops Q (⟨dst,op,ty,pos,after,none⟩::rest) st:=k
theorem AOps.jQ(k:B->AOps ro P nt ops Q (⟨dst,op,ty,pos,after,some gd⟩::rest) st):B->AOps ro P nt ops Q (⟨dst,op,ty,pos,after,some gd⟩::rest) st:=k
theorem AOps.j_store(k:B->AOps ro P nt ops Q (⟨dst,.store t x y,ty,pos,after,g⟩::rest) st):B->AOps ro P nt ops Q (⟨dst,.store t x y,ty,pos,after,g⟩::rest) st:=k
theorem AOps.j_alloc(k:B->AOps ro P nt ops Q (⟨dst,.alloc t,ty,pos,after,g⟩::rest) st):B->AOps ro P nt ops Q (⟨dst,.alloc t,ty,pos,after,g⟩::rest) st:=k
theorem AOps.j_box(k:B->AOps ro P nt ops Q (⟨dst,.box t x,ty,pos,after,g⟩::rest) st):B->AOps ro P nt ops Q (⟨dst,.box t x,ty,pos,after,g⟩::rest) st:=k
theorem AOps.j_append(k:B->AOps ro P nt ops Q (⟨dst,.call ⟨.builtin .append,#[x,y],#[t,t]⟩,ty,pos,after,g⟩::rest) st):B->AOps ro P nt ops Q (⟨dst,.call ⟨.builtin .append,#[x,y],#[t,t]⟩,ty,pos,after,g⟩::rest) st:=k
theorem RGo.jN(k:B->RGo P nt ops l Q (⟨dst,op,ty,pos,after,none⟩::rest) acc st):B->RGo P nt ops l Q (⟨dst,op,ty,pos,after,none⟩::rest) acc st:=k
theorem RGo.jQ(k:B->RGo P nt ops l Q (⟨dst,op,ty,pos,after,some gd⟩::rest) acc st):B->RGo P nt ops l Q (⟨dst,op,ty,pos,after,some gd⟩::rest) acc st:=k
theorem RGo.j_store(k:B->RGo P nt ops l Q (⟨dst,.store t x y,ty,pos,after,g⟩::rest) acc st):B->RGo P nt ops l Q (⟨dst,.store t x y,ty,pos,after,g⟩::rest) acc st:=k
theorem RGo.j_alloc(k:B->RGo P nt ops l Q (⟨dst,.alloc t,ty,pos,after,g⟩::rest) acc st):B->RGo P nt ops l Q (⟨dst,.alloc t,ty,pos,after,g⟩::rest) acc st:=k
theorem RGo.j_box(k:B->RGo P nt ops l Q (⟨dst,.box t x,ty,pos,after,g⟩::rest) acc st):B->RGo P nt ops l Q (⟨dst,.box t x,ty,pos,after,g⟩::rest) acc st:=k
theorem RGo.j_append(k:B->RGo P nt ops l Q (⟨dst,.call ⟨.builtin .append,#[x,y],#[t,t]⟩,ty,pos,after,g⟩::rest) acc st):B->RGo P nt ops l Q (⟨dst,.call ⟨.builtin .append,#[x,y],#[t,t]⟩,ty,pos,after,g⟩::rest) acc st:=k
end
theorem WO_{A B:Prop}(h:B->A:=by first|(apply AOps.jN;first|(apply AOps.j_store;exact AOps.goS_)|(apply AOps.j_alloc;exact EF)|(apply AOps.j_box;exact EF)|(apply AOps.j_append;exact Ga)|exact AOps.go_)|(apply AOps.jQ;first|exact GY|exact AOps.goN_|exact AOps.goQ1_|exact AOps.goQ2_|exact AOps.goQ3_)):B->A:=h
theorem WO{A B:Prop}(k:B)(h:B->A:=by exact WO_):A:=h k
theorem WF_{A B:Prop}(h:B->A:=by first|exact AWP.seq|exact AWP.skip|exact AWP.block|exact AWP.exit|exact Ae|exact Hu|exact D9|exact Hv|exact G7 rfl):B->A:=h
theorem WF{A B:Prop}(k:B)(h:B->A:=by exact WF_):A:=h k
theorem WN{A B:Prop}(k:B)(h:B->A:=by first|exact Ae|exact Hu|exact D9|exact Hv|exact G7 rfl):A:=h k
theorem WK{A B:Prop}(k:B)(h:B->A:=by first|exact WO_|exact AOps.nil|exact WF_|exact AWP.region):A:=h k
theorem RK{A B:Prop}(k:B)(h:B->A:=by first|(apply RGo.jN;first|(apply RGo.j_store;exact RGo.goS_)|(apply RGo.j_append;exact E8)|(apply RGo.j_alloc;exact Cq)|(apply RGo.j_box;exact Cq)|exact RGo.go_)|(apply RGo.jQ;first|(apply RGo.j_store;exact RGo.goS_)|(apply RGo.j_append;exact E8)|(apply RGo.j_alloc;exact Cq)|(apply RGo.j_box;exact Cq)|exact RGo.go_|exact RGo.goN_|exact RGo.goQ1_|exact RGo.goQ2_|exact RGo.goQ3_)):A:=h k
theorem RG{A B:Prop}(k:B)(h:B->A:=by(intro b;(repeat refine WF ?_);refine AWP.region ?_;exact b)):A:=h k
theorem RU{A B:Prop}(k:B)(h:B->A:=by(intro b;(repeat refine WF ?_);refine Du (by kernel_rfl) (by kernel_rfl) ?_;exact b)):A:=h k
theorem Ai{p:Nat->Prop}(h:∀X,p X):All p:=⟨h⟩
theorem Ay{p:Nat->Prop}(h:∀X,p X):AllY p:=⟨h⟩
theorem NL{A B:Prop}(k:B)(h:B->A:=by(intro b;refine AOps.nil ?_;(repeat refine WN ?_);exact b)):A:=h k
theorem FL{A B:Prop}(k:B)(h:B->A:=by(intro b;(repeat first|refine AOps.nil ?_|refine WF ?_);exact b)):A:=h k
theorem RT{A B:Prop}(k:B)(h:B->A:=by(intro b;refine AWP.ret ?_;(repeat (first|refine IF ?_|refine GU ?_));refine Hz ?_;exact b)):A:=h k
end
section
variable {ro:Option Nat}
open Go.RowKit
def Yld(P:Program)(y:Value)(xs:List (List AV))(J:Nat->List AA->Prop)(Jx:List AA->Prop):Prop:=
 ∃l,y= .func (.yield l) #[] #[]/\∀i vs,xs[i]?=some vs->∀Sl,J i Sl->∀(Si:List AA) (m:Mem) (N:Nat) (Z:Zs) (us:List Value),Z.map (·.1)=Si++Sl->Good m m N Z []->VTs m vs us []->
  ∃f tmps assign body,(Instr.yield l us.toArray).run P m.w= .ok (.round l f tmps assign body) m.w/\RoundIn (FW none) 0 P l f tmps assign body m.w λe w'=>
   ∃b Sl' m' N' Z',e= .returned (.bool b)/\m'.w=w' /\Z'.map (·.1)=Si++Sl' /\Good m m' N' Z' []/\(b=true->J (i+1) Sl')/\(b=false->Jx Sl')
def Itr(P:Program)(f:FuncId)(cap:List AV)(xs:List (List AV)):Prop:=
 FQ P f=true/\∀y J Jx,Yld P y xs J Jx->∀Sl,J 0 Sl->Spec P f (.prim y::cap) Sl λ_ S'=>J xs.length S' \/Jx S'
theorem AN{α β:Type}{f:α->β}:∀{Z:List α} {A B:List β},Z.map f=A++B->∃ZA ZB,Z=ZA++ZB/\ZA.map f=A/\ZB.map f=B
 |Z,[],B,h=>⟨[],Z,rfl,rfl,h⟩
 |[],a::A,B,h=>by simp at h
 |z::Z,a::A,B,h=>by
  simp only[List.map_cons,List.cons_append,List.cons.injEq]at h;obtain⟨ZA,ZB,e,h1,h2⟩:=AN h.2;exact⟨z::ZA,ZB,by simp[e],by simp[h.1,h1],h2⟩
abbrev YO:=Nat->List AV×List AA
def Hl(P:Program)(y:Value)(xs:List YO)(J:Nat->List AA->Prop)(Jx:List AA->Prop):Prop:=
 ∃l,y= .func (.yield l) #[] #[]/\∀i vs,xs[i]?=some vs->∀C Sl,J i Sl->∀(Si:List AA) (m:Mem) (N:Nat) (Z:Zs) (us:List Value),Z.map (·.1)=Si++((vs C).2++Sl)->Good m m N Z []->VTs m (vs C).1 us []->
  ∃f tmps assign body,(Instr.yield l us.toArray).run P m.w= .ok (.round l f tmps assign body) m.w/\RoundIn (FW none) 0 P l f tmps assign body m.w λe w'=>
   ∃b Sl' m' N' Z',e= .returned (.bool b)/\m'.w=w' /\Z'.map (·.1)=Si++Sl' /\Good m m' N' Z' []/\(b=true->J (i+1) Sl')/\(b=false->Jx Sl')
def IL(P:Program)(f:FuncId)(cap:List AV)(xs:List YO):Prop:=
 FQ P f=true/\∀y J Jx,Hl P y xs J Jx->∀Sl,J 0 Sl->Spec P f (.prim y::cap) Sl λ_ S'=>J xs.length S' \/Jx S'
section
variable {P:Program}{nt:Nat}{ops:Array Oper}{Q:Exit->St->Prop}{rest:List Oper}{T:List (Nat×AV)}{S Si Sl Sf:List AA}{y:Value}{xs:List YO}{J:Nat->List AA->Prop}{Jx:List AA->Prop}
variable {dst:Option Tmp}{ty:TypeId}{pos:String}{after:Array Edge}{x:Operand}{ys:List (Operand×AV)}{ats:Array TypeId}{i:Nat}
theorem E9{C:Nat}{x0:YO}{ob:List AA}(hY:Hl P y xs J Jx)(hJ:J i Sl)(hi:xs[i]?=some x0)(hx1:(x0 C).1=ys.map (·.2))(hx2:(x0 C).2=ob)(hx:ev T x=some (.prim y))(has:Evs T ys)(ht:AS ys=true)(hd:AD dst nt=true)
  (kt:∀Sl',J (i+1) Sl' ->AOps ro P nt ops Q rest ⟨AE T dst (.prim (.bool true)),Si++(Sl'++Sf)⟩) (kf:∀Sl',Jx Sl' ->AOps ro P nt ops Q rest ⟨AE T dst (.prim (.bool false)),Si++(Sl'++Sf)⟩):
  AOps ro P nt ops Q (⟨dst,.call ⟨.value x,(ys.map (·.1)).toArray,ats⟩,ty,pos,after,none⟩::rest) ⟨T,Si++((ob++Sl)++Sf)⟩:=by
 rintro m0 a w ⟨m,N,Z,rfl,h2,h3,h4⟩;refine wpListIn_plain rfl λK hK=>?_
 obtain⟨l,rfl,hY⟩:=hY;have hyv:=(h4.ev hx).prim;obtain⟨Zi,Zr,rfl,hzi,hzr⟩:=AN (A:=Si) (B:=(ob++Sl)++Sf) h2;obtain⟨Zl,Zf,rfl,hzl,hzf⟩:=AN hzr
 have hp:(Zi++(Zl++Zf)).Perm ((Zi++Zf)++Zl):=by
  rw[List.append_assoc];exact List.Perm.append_left _ List.perm_append_comm
 have hus:VTs m (ys.map (·.2)) (ys.map λq=>a.eval q.1) []:=B7 (A1 ht) λq hq=>h4.ev (has.all q hq)
 obtain⟨f,tmps,assign,body,hrun,hR⟩:=hY i _ hi C Sl hJ (Si++Sf) m N _ _ (by simp[hzi,hzf,hzl,hx2]) (h3.perm hp).self (by rw[hx1];exact hus);refine⟨λ_ _=>trivial,?_⟩
 have hexec:(Oper.semAt (FW ro).round a.eval ⟨dst,.call ⟨.value x,(ys.map (·.1)).toArray,ats⟩,ty,pos,after,none⟩).run P m.w= .ok (.round l f tmps assign body) m.w:=by
  rw[Oper.semAt_eq _ _ _ (by simp)];simp only[execOp,resolve,hyv,Deferred.ofValue,invoke,Sem.run_bind,Sem.run_pure,Result.andThen_ok];rw[show(#[]:Array Value)++Array.map a.eval (ys.map (·.1)).toArray=(ys.map λq=>a.eval q.1).toArray from by simp[Function.comp_def]];exact hrun
 rw[hexec];refine⟨λh=>(by simp[FW,Fence.wide]at h),RoundIn.mono (F:=FW ro) (n:=0-1) hR λe w' he=>?_⟩;obtain⟨b,Sl',m',N',Z',rfl,rfl,hm,G',kT,kF⟩:=he;obtain⟨Za,Zl',rfl,hza,hzl'⟩:=AN hm;obtain⟨Zi',Zf',rfl,hzi',hzf'⟩:=AN hza
 have hp':((Zi'++Zf')++Zl').Perm (Zi'++(Zl'++Zf')):=by
  rw[List.append_assoc];exact List.Perm.append_left _ List.perm_append_comm
 refine hK _ _ ?_
 have hrel:Rel nt m0 ⟨AE T dst (.prim (.bool b)),Si++(Sl'++Sf)⟩ (a.put dst (.bool b)) m'.w:=
  ⟨m',N',_,rfl,by simp[hzi',hzf',hzl'],(h3.after G').perm hp',(h4.mono G'.le).put (AZ hd) (AQ _)⟩
 cases b with
 |true=>exact kt Sl' (kT rfl) m0 _ _ hrel
 |false=>exact kf Sl' (kF rfl) m0 _ _ hrel
end
theorem Yld.o{y:Value}{xs:List (List AV)}{J:Nat->List AA->Prop}{Jx:List AA->Prop}{P:Program}(h:Yld P y xs J Jx):Hl P y (xs.map λvs _=>(vs,[])) J Jx:=by
 obtain⟨l,e,h⟩:=h;refine⟨l,e,λi vs hi C Sl hJ Si m N Z us hZ G hus=>?_⟩;rw[List.getElem?_map]at hi;obtain⟨v,hv,rfl⟩:=Option.map_eq_some_iff.1 hi;exact h i v hv Sl hJ Si m N Z us hZ G hus
theorem Itr.o{P:Program}{f:FuncId}{cap:List AV}{xs:List (List AV)}(h:Itr P f cap xs):IL P f cap (xs.map λvs _=>(vs,[])):=by
 refine⟨h.1,λy J Jx hY Sl hJ=>?_⟩;obtain⟨l,e,hY⟩:=hY;have:=h.2 y J Jx ⟨l,e,λi vs hi Sl hJ Si m N Z us hZ G hus=>hY i (λ_=>(vs,[])) (by rw[List.getElem?_map,hi];rfl) 0 Sl hJ Si m N Z us hZ G hus⟩ Sl hJ;rw[List.length_map];exact this
section
variable {P:Program}{nt:Nat}{ops:Array Oper}{Q:Exit->St->Prop}{rest:List Oper}{T:List (Nat×AV)}{S Si Sl Sf:List AA}{y:Value}{xs:List (List AV)}{J:Nat->List AA->Prop}{Jx:List AA->Prop}
variable {dst:Option Tmp}{ty:TypeId}{pos:String}{after:Array Edge}{x:Operand}{ys:List (Operand×AV)}{ats:Array TypeId}{i:Nat}
theorem AOps.yield(hY:Yld P y xs J Jx)(hJ:J i Sl)(hi:xs[i]?=some (ys.map (·.2)))(hx:ev T x=some (.prim y))(has:Evs T ys)(ht:AS ys=true)(hd:AD dst nt=true)
  (kt:∀Sl',J (i+1) Sl' ->AOps ro P nt ops Q rest ⟨AE T dst (.prim (.bool true)),Si++(Sl'++Sf)⟩) (kf:∀Sl',Jx Sl' ->AOps ro P nt ops Q rest ⟨AE T dst (.prim (.bool false)),Si++(Sl'++Sf)⟩):
  AOps ro P nt ops Q (⟨dst,.call ⟨.value x,(ys.map (·.1)).toArray,ats⟩,ty,pos,after,none⟩::rest) ⟨T,Si++(Sl++Sf)⟩:=
 E9 (C:=0) (x0:=λ_=>(ys.map (·.2),[])) (ob:=[]) hY.o hJ (by rw[List.getElem?_map,hi];rfl) rfl rfl hx has ht hd kt kf
theorem Good.newRaw{m0 m:Mem}{N:Nat}{R:Zs}{ex:List Nat}(G:Good m0 m N R ex)(o:Obj)(m':Mem)(hm':m'=⟨m.μ,λy=>m.U y\/y=N,m.w.alloc o,m.F⟩):
  Good m0 m' (N+1) (((N,.raw m.w.heap.size o),[m.w.heap.size])::R) ex/\m.Le m':=by
 subst hm';have hle:m.Le ⟨m.μ,λy=>m.U y\/y=N,m.w.alloc o,m.F⟩:=⟨λy h=>.inl h,λ_ _ _ h=>h,λb hb=>⟨hb,Below.heap_alloc _ _ _ (G.frz b hb)⟩⟩;refine⟨Good.swap (zs:=[]) (zs':=[((N,.raw m.w.heap.size o),[m.w.heap.size])]) (R:=R) (ex:=ex) (ex':=ex) G hle (by omega) (λy _ _=>rfl) (λb hb _ _=>Below.heap_alloc _ _ _ hb) ?_ ?_ ?_ ?_ ?_ ?_ ?_ rfl rfl rfl (by simp),hle⟩
 ·intro z hz
  simp only[List.mem_singleton]at hz;subst hz;exact⟨rfl,.inr rfl,World.alloc_heap_new _ _⟩
 ·refine List.nodup_append.2 ⟨by simp[Zs.own],(List.nodup_append.1 G.own).2.1,λb hb c hc e=>?_⟩
  simp only[Zs.own,List.flatMap_cons,List.flatMap_nil,List.append_nil,List.mem_singleton]at hb;have:=(G.blk c (by simp[hc])).1;omega
 ·intro b hb
  simp only[Zs.own,List.flatMap_cons,List.flatMap_nil,List.append_nil,List.mem_append,List.mem_singleton]at hb;rcases hb with rfl|hb
  ·exact⟨by simp,λh=>Nat.lt_irrefl _ (G.frz _ h),.inr (.inr (Nat.le_refl _))⟩
  ·have:=G.blk b (by simp[hb])
   exact⟨by have:=this.1;simp;omega,this.2,.inr (.inl hb)⟩
 ·intro b hb
  exact⟨by have:=G.frz b hb;simp;omega,.inl hb⟩
 ·simp[Zs.keys]
 ·intro y hy
  simp only[Zs.keys,List.map_cons,List.map_nil,List.mem_singleton]at hy;subst hy;exact⟨by omega,.inr (Nat.le_refl _)⟩
 ·intro y hy
  rcases hy with hy|rfl
  ·have:=G.usedN y hy;exact⟨by omega,.inl hy⟩
  ·exact⟨by omega,.inr (.inr (Nat.le_refl _))⟩
theorem Good.newFrz{m0 m:Mem}{N:Nat}{R:Zs}{ex:List Nat}(G:Good m0 m N R ex)(o:Obj)(m':Mem)(hm':m'=⟨m.μ,m.U,m.w.alloc o,λb=>m.F b\/b=m.w.heap.size⟩):
  Good m0 m' N R ex/\m.Le m':=by
 subst hm';have hle:m.Le ⟨m.μ,m.U,m.w.alloc o,λb=>m.F b\/b=m.w.heap.size⟩:=⟨λy h=>h,λ_ _ _ h=>h,λb hb=>⟨.inl hb,Below.heap_alloc _ _ _ (G.frz b hb)⟩⟩;refine⟨Good.swap (zs:=[]) (zs':=[]) (R:=R) (ex:=ex) (ex':=ex) G hle (by omega) (λy _ _=>rfl) (λb hb _ _=>Below.heap_alloc _ _ _ hb) (λz hz=>by cases hz) ?_ ?_ ?_ (by simp[Zs.keys]) (λy hy=>by simp[Zs.keys]at hy) ?_ rfl rfl rfl (by simp),hle⟩
 ·simpa[Zs.own]using(List.nodup_append.1 G.own).2.1
 ·intro b hb
  simp only[Zs.own,List.flatMap_nil,List.nil_append]at hb;have:=G.blk b (by simp[hb]);refine⟨by have:=this.1;simp;omega,?_,.inr (.inl hb)⟩;rintro(h|h)
  ·exact this.2 h
  ·have:=this.1;omega
 ·intro b hb
  rcases hb with hb|rfl
  ·exact⟨by have:=G.frz b hb;simp;omega,.inl hb⟩
  ·exact⟨by simp,.inr (.inr (.inr (Nat.le_refl _)))⟩
 ·intro y hy
  exact⟨G.usedN y hy,.inl hy⟩
theorem Good.setRaw{m0 m:Mem}{N X b:Nat}{o:Obj}{bs:List Nat}{R:Zs}{ex:List Nat}(G:Good m0 m N (((X,.raw b o),bs)::R) ex)(o':Obj)(m':Mem)(hm':m'={m with w:=m.w.putObj b o'}):
  Good m0 m' N (((X,.raw b o'),bs)::R) ex/\m.Le m':=by
 subst hm';obtain⟨rfl,hU,hb⟩:=G.obj _ (List.mem_cons_self ..);have hbk:=G.blk b (by simp[Zs.own]);have hle:m.Le {m with w:=m.w.putObj b o'}:=⟨λy h=>h,λ_ _ _ h=>h,λc hc=>⟨hc,World.putObj_heap_other (by rintro rfl;exact hbk.2 hc)⟩⟩;have own:=G.own;refine⟨Good.swap (zs:=[((X,.raw b o),[b])]) (zs':=[((X,.raw b o'),[b])]) (R:=R) (ex:=ex) (ex':=ex) G hle (by omega) (λy _ _=>rfl) (λc _ hc _=>World.putObj_heap_other (by simpa[Zs.own]using hc)) ?_ ?_ ?_ ?_ (by simp[Zs.keys]) ?_ ?_ rfl rfl rfl (by simp),hle⟩
 ·intro z hz
  simp only[List.mem_singleton]at hz;subst hz;exact⟨rfl,hU,World.putObj_heap_same hbk.1⟩
 ·have hp:(Zs.own (((X,AO.raw b o),[b])::R)++ex).Perm (R.own++([b]++ex)):=by
   rw[AT,List.append_assoc];refine List.perm_append_comm.trans ?_;rw[List.append_assoc];exact List.Perm.append_left _ List.perm_append_comm
  have:=(List.nodup_append.1 (hp.nodup_iff.1 own)).2.1;simpa[Zs.own]using this
 ·intro c hc
  simp only[Zs.own,List.flatMap_cons,List.flatMap_nil,List.append_nil,List.mem_append,List.mem_singleton]at hc;have hk:=G.blk c (by simp only[AT,List.mem_append,List.mem_singleton];rcases hc with h|h<;>simp[h]);exact⟨by simpa using hk.1,hk.2,by rcases hc with h|h<;>simp[Zs.own,h]⟩
 ·intro c hc
  exact⟨by simpa using G.frz c hc,.inl hc⟩
 ·intro y hy
  simp only[Zs.keys,List.map_cons,List.map_nil,List.mem_singleton]at hy⊢;subst hy;exact⟨G.keyN y (by simp[Zs.keys]),.inl rfl⟩
 ·intro y hy
  exact⟨G.usedN y hy,.inl hy⟩
theorem Good.note{m0 m:Mem}{N:Nat}{R:Zs}{ex:List Nat}(G:Good m0 m N R ex)(K:AV->Value->Prop)(hK:∀v u,K v u->VV m v u [])(m':Mem)(hm':m'={m with U:=λy=>m.U y\/y=N}):
  Good m0 m' (N+1) (((N,.tv K),[])::R) ex/\m.Le m':=by
 subst hm';have hle:m.Le {m with U:=λy=>m.U y\/y=N}:=⟨λy h=>.inl h,λ_ _ _ h=>h,λb hb=>⟨hb,rfl⟩⟩;refine⟨Good.one (zs:=[]) (zs':=[((N,.tv K),[])]) (R:=R) G _ (N+1) rfl rfl hle (by omega) (λy _ hy=>rfl) ?_ rfl (by simp[Zs.keys]) ?_ ?_,hle⟩
 ·intro z hz
  simp only[List.mem_singleton]at hz;subst hz;exact⟨rfl,.inr rfl,λv u h=>(hK v u h).mono hle (by simp)⟩
 ·intro y hy
  simp only[Zs.keys,List.map_cons,List.map_nil,List.mem_singleton]at hy;subst hy;exact⟨by omega,.inr (Nat.le_refl _)⟩
 ·intro y hy
  rcases hy with hy|rfl
  ·have:=G.usedN y hy;exact⟨by omega,.inl hy⟩
  ·exact⟨by omega,.inr (.inr (Nat.le_refl _))⟩
end
section
variable {P:Program}{nt:Nat}{m0 m:Mem}
theorem Rel.setRaw{T:List (Nat×AV)}{pre G:List AA}{X l:Nat}{o o':Obj}{a:Act}{w:World}(h:Rel nt m0 ⟨T,pre++(X,.raw l o)::G⟩ a w):w.heap[l]?=some o/\Rel nt m0 ⟨T,pre++(X,.raw l o')::G⟩ a (w.putObj l o'):=by
 obtain⟨m,N,Z,rfl,h2,h3,h4⟩:=h;obtain⟨Zp,Zr,rfl,hzp,hzr⟩:=AN (A:=pre) (B:=(X,.raw l o)::G) h2;cases Zr with
 |nil=>simp at hzr
 |cons z Zg=>
  simp only[List.map_cons,List.cons.injEq]at hzr;obtain⟨⟨x,ob⟩,bs⟩:=z;obtain⟨hz,hzg⟩:=hzr;simp only at hz;injection hz with hz1 hz2
  subst hz1 hz2;have G1:=h3.perm List.perm_middle;have hO:=G1.obj _ (List.mem_cons_self ..);obtain⟨G2,hle⟩:=G1.setRaw o' _ rfl;exact⟨hO.2.2,_,N,Zp++((x,.raw l o'),bs)::Zg,rfl,by simp[hzp,hzg],G2.perm List.perm_middle.symm,h4.mono hle⟩
def Gb:List (Nat×AV)->List Nat->List AV->List (Nat×AV)
 |T,d::ds,v::vs=>Gb ((d,v)::T) ds vs
 |T,_,_=>T
theorem TRel.zip:∀{ps:List Nat} {vs:List AV} {us:List Value} {T:List (Nat×AV)} {tm:Array Value},TRel m0 m nt T {tmps:=tm,defers:=[]}->VTs m vs us []->(∀d∈ps,d<nt)->TRel m0 m nt (Gb T ps vs) {tmps:=(ps.zip us).foldl (λt q=>t.setIfInBounds q.1 q.2) tm,defers:=[]}
 |[],vs,us,T,tm,h,hv,hd=>by cases vs<;>exact h
 |d::ps,[],us,T,tm,h,hv,hd=>by obtain⟨rfl,_⟩:=hv;exact h
 |d::ps,v::vs,us,T,tm,h,hv,hd=>by
  obtain⟨u,us',b1,b2,rfl,e,h1,h2⟩:=(AK hv.ntup).1 hv;obtain⟨rfl,rfl⟩:b1=[]/\b2=[]:=by simpa using e.symm
  have h3:=h.put (dst:=some d) (λe he=>by cases he;exact hd d (by simp)) h1;exact TRel.zip (T:=(d,v)::T) h3 h2 λd hd'=>hd d (by simp[hd'])
def IJ(F1 F2:List AA)(K:St->Prop):Exit->St->Prop
 |.normal,st=>∃pre,(pre++F1).Sublist st.S/\K ⟨st.T,pre++F2⟩
 |_,_=>False
def IC(P:Program)(nt:Nat)(Q:Exit->St->Prop)(T:List (Nat×AV))(Sf:List AA)(nxt:List AA->Prop)(F:List AA):Exit->St->Prop
 |.normal,st=>∃pre,(pre++F).Sublist st.S/\nxt pre
 |.ret,st=>∃pre,(pre++F).Sublist st.S/\AWP none P nt .ret Q ⟨T,pre++Sf⟩
 |.exit id,st=>∃pre,(pre++F).Sublist st.S/\AWP none P nt (.exit id) Q ⟨T,pre++Sf⟩
 |_,_=>False
theorem Fe{β:Type}{g:Operand}{ps:Array Tmp}{assign body:Code}{Q:Exit->St->Prop}{T:List (Nat×AV)}{S Sf:List AA}{gf:FuncId}{cap:List AV}{xs:List YO}(hI:IL P gf cap xs)(inv:β->List AA)(R:Nat->β->Prop)(b0:β)(hR:R 0 b0)
  (hround:∀(i:Nat) vs C b l F1 F2,xs[i]?=some vs->R i b->AWP (some l) P nt assign (IJ F1 F2 λst=>AWP (some l) P nt body (IC P nt Q T Sf (λpre=>∃b',R (i+1) b' /\pre=inv b') F2) st) ⟨Gb T ps.toList (vs C).1,(vs C).2++(inv b++F1)⟩)
  (hdone:∀b,R xs.length b->Q .normal ⟨T,inv b++Sf⟩)
  (hg:ev T g=some (.fn gf cap)) (hs:B5 cap=true) (hps:ps.toList.all (Nat.blt · nt)=true) (hlen:∀vs∈xs,∀C,(vs C).1.length=ps.size) (hS:(inv b0++Sf).Sublist S):AWP none P nt (.rangeFunc g ps assign body) Q ⟨T,S⟩:=by
 intro m0 a w hr;obtain⟨m,N,Z,rfl,h2,h3,h4⟩:=hr.sub hS;obtain⟨cs,e1,hcap⟩:=h4.ev hg;injection e1 with e1
 refine wpIn_rangeFunc ?_;intro fn _;obtain⟨rec,hrec⟩:∃rec:LoopState->Option Code->Loop,rec=λst pe=>{state:=st,pending:=pe,fn,tmps:=a.tmps,params:=ps,assign,body,defers:=m.w.heap.size}:=⟨_,rfl⟩
 obtain⟨G1,hle1⟩:=h3.newFrz (.deferred (some [])) _ rfl;obtain⟨G2,hle2⟩:=G1.newRaw (.loop (rec .ready none)) _ rfl;have hle12:=hle1.trans hle2;obtain⟨m2,hm2⟩:∃m2:Mem,(⟨m.μ,λy=>m.U y\/y=N,(m.w.alloc (.deferred (some []))).alloc (.loop (rec .ready none)),λb=>m.F b\/b=m.w.heap.size⟩:Mem)=m2:=⟨_,rfl⟩;have hw2:(m.w.alloc (.deferred (some []))).alloc (.loop (rec .ready none))=m2.w:=by rw[<-hm2]
 have G2':Good m0 m2 (N+1) (((N,.raw (m.w.heap.size+1) (.loop (rec .ready none))),[m.w.heap.size+1])::Z) []:=by
  rw[<-hm2];have:=G2;simp only[World.size_alloc]at this;exact this
 have hle:m.Le m2:=by rw[<-hm2];exact hle12
 have hV2:∀d v,AI T d=some v->∃u,a.tmps[d]?=some u/\VV m2 v u []:=(h4.mono hle).2.2;obtain⟨K,hK⟩:∃K:AV->Value->Prop,K=λv u=>∃d,AI T d=some v/\a.tmps[d]?=some u:=⟨_,rfl⟩
 obtain⟨G3,hle3⟩:=G2'.note K (λv u h=>by
  rw[hK]at h;obtain⟨d,h5,h6⟩:=h;obtain⟨u',h7,h8⟩:=hV2 d v h5;rw[h6]at h7;injection h7 with h7
  rw[h7];exact h8) _ rfl
 obtain⟨m3,hm3⟩:∃m3:Mem,{m2 with U:=λy=>m2.U y\/y=N+1}=m3:=⟨_,rfl⟩;rw[hm3]at G3 hle3;have hw3:m3.w=m2.w:=by rw[<-hm3]
 have h0F:m3.F m.w.heap.size:=by rw[<-hm3,<-hm2];exact .inr rfl
 have h0D:m3.w.heap[m.w.heap.size]?=some (.deferred (some [])):=by
  rw[hw3,<-hw2];exact(Below.heap_alloc _ _ _ (by simp)).trans (World.alloc_heap_new m.w _)
 have hle03:m.Le m3:=hle.trans hle3;obtain⟨l,hl⟩:∃l,m.w.heap.size+1=l:=⟨_,rfl⟩;rw[hl]at G3;clear G1 G2 G2' hle1 hle2 hle12;obtain⟨Zi,Zf,rfl,hzi,hzf⟩:=AN (A:=inv b0) (B:=Sf) h2
 have hsl:∀(A B C D:List (AA×List Nat)),(A++(B++(C++D))).Perm (C++(B++(A++D))):=λA B C D=>by
  have p1:(A++(B++(C++D))).Perm ((C++(B++A))++D):=by
   rw[<-List.append_assoc,<-List.append_assoc];refine List.Perm.append_right _ ?_;refine List.perm_append_comm.trans (List.Perm.append_left _ List.perm_append_comm)
  simpa[List.append_assoc]using p1
 let J:Nat->List AA->Prop:=λi Sl=>∃b,R i b/\Sl=inv b++(N,.raw l (.loop (rec .ready none)))::(N+1,.tv K)::Sf
 let Jx:List AA->Prop:=λSl=>∃c pre,Sl=pre++(N,.raw l (.loop (rec .done (some c))))::(N+1,.tv K)::Sf/\AWP none P nt c Q ⟨T,pre++Sf⟩
 have hY:Hl P (.func (.yield l) #[] #[]) xs J Jx:=by
  refine⟨l,rfl,?_⟩;rintro i vs hi C Sl ⟨b,hRb,rfl⟩ Si mr Nr Zr us hZr Gr hus
  have hRel0:Rel nt mr ⟨Gb T ps.toList (vs C).1,((vs C).2++inv b)++(N,.raw l (.loop (rec .ready none)))::((N+1,.tv K)::Sf++Si)⟩ {tmps:=(ps.toList.zip us).foldl (λt q=>t.setIfInBounds q.1 q.2) a.tmps,defers:=[]} mr.w:=by
   obtain⟨Za,Zb,rfl,hza,hzb⟩:=AN (A:=Si) hZr;have hp:(Za++Zb).Perm (Zb++Za):=List.perm_append_comm;refine⟨mr,Nr,Zb++Za,rfl,by simp[hza,hzb],Gr.perm hp,TRel.zip ⟨h4.1,DRel.nil rfl,λd v hd=>?_⟩ hus λd hd=>?_⟩
   ·have hO:∃bs,((N+1,AO.tv K),bs)∈Zb:=by
     have:(N+1,AO.tv K)∈Zb.map (·.1):=by rw[hzb];simp
     obtain⟨⟨q,bs⟩,hq,rfl⟩:=List.mem_map.1 this;exact⟨bs,hq⟩
    obtain⟨bs,hO⟩:=hO;have:=Gr.obj _ (List.mem_append_right _ hO);obtain⟨_,_,hk⟩:=this;obtain⟨u,h5,_⟩:=h4.2.2 d v hd;exact⟨u,h5,hk v u (by rw[hK];exact⟨d,hd,h5⟩)⟩
   ·have:=List.all_eq_true.1 hps d hd
    simpa[Nat.blt_eq]using this
  have hheap:=(hRel0.setRaw (o':=.deferred none)).1
  have hus2:us.length=ps.size:=by
   rw[(VTs.get hus).1];exact hlen vs (List.mem_of_getElem? hi) C
  refine⟨fn,(ps.toList.zip us).foldl (λt q=>t.setIfInBounds q.1 q.2) a.tmps,assign,body,?_,?_⟩
  ·have:=run_yield (P:=P) (args:=us.toArray) hheap (by rw[hrec];simpa using hus2)
   rw[this,hrec];simp only
   congr 2
   rw[<-Array.foldl_toList];simp[Array.toList_zip]
  ·have hA:=hround i vs C b l _ ((N,.raw l (.loop (rec .busy none)))::((N+1,.tv K)::Sf++Si)) hi hRb mr _ _ (by rw[List.append_assoc]at hRel0;exact hRel0)
   refine roundIn_of_wpIn (F:=FW none) trivial (wpIn_mono (F:=FW (some l)) hA λe a' w' ⟨st',hr',hq⟩=>?_);cases e with
   |normal=>
    obtain⟨pre,hsub,hk⟩:=hq;obtain⟨hb1,hr2⟩:=(hr'.sub (T:=st'.T) hsub).setRaw (o':=.loop (rec .busy none));refine⟨_,run_beginRound hb1 (by rw[hrec]),?_⟩
    have hr3:Rel nt mr ⟨st'.T,pre++(N,.raw l (.loop (rec .busy none)))::((N+1,.tv K)::Sf++Si)⟩ a' (w'.putObj l (.loop {rec .ready none with state:=.busy})):=by
     have:({rec .ready none with state:=.busy}:Loop)=rec .busy none:=by rw[hrec]
     rw[this];exact hr2
    refine wpIn_mono (F:=FW (some l)) (hk mr _ _ hr3) λe a2 w2 ⟨st2,hr4,hq2⟩=>?_
    have fin:∀(pre2:List AA) (jump:Option Code) (st:LoopState),st=(if jump.isNone then LoopState.ready else .done)->(pre2++(N,.raw l (.loop (rec .busy none)))::((N+1,.tv K)::Sf++Si)).Sublist st2.S->
      ((jump.isNone=true->J (i+1) (pre2++(N,.raw l (.loop (rec st jump)))::(N+1,.tv K)::Sf))/\(jump.isNone=false->Jx (pre2++(N,.raw l (.loop (rec st jump)))::(N+1,.tv K)::Sf)))->
      ∃v w',(Instr.endRound l jump).run P w2= .ok v w' /\∃b Sl' m' N' Z',Ending.returned v= .returned (.bool b)/\m'.w=w' /\Z'.map (·.1)=Si++Sl' /\Good mr m' N' Z' []/\(b=true->J (i+1) Sl')/\(b=false->Jx Sl'):=by
     intro pre2 jump st hst hsub2 hj;obtain⟨hb3,hr5⟩:=(hr4.sub (T:=st2.T) hsub2).setRaw (o':=.loop (rec st jump));refine⟨_,_,run_endRound jump hb3,jump.isNone,pre2++(N,.raw l (.loop (rec st jump)))::(N+1,.tv K)::Sf,?_⟩;have hrq:({rec .busy none with state:=if jump.isNone then .ready else .done,pending:=jump}:Loop)=rec st jump:=by rw[hrec,hst]
     rw[hrq];obtain⟨m',N',Z',h5,h6,h7,h8⟩:=hr5;have h6':Z'.map (·.1)=(pre2++(N,.raw l (.loop (rec st jump)))::(N+1,.tv K)::Sf)++Si:=by simpa using h6
     obtain⟨Zc,Zd,rfl,hzc,hzd⟩:=AN h6';exact⟨m',N',Zd++Zc,rfl,h5,by simp only[List.map_append,hzc,hzd],h7.perm List.perm_append_comm,hj.1,hj.2⟩
    cases e with
    |normal=>
     obtain⟨pre2,hsub2,b',hRb',rfl⟩:=hq2;exact fin (inv b') none .ready rfl hsub2 ⟨λ_=>⟨b',hRb',rfl⟩,λh=>by cases h⟩
    |ret=>
     obtain⟨pre2,hsub2,hx⟩:=hq2;exact fin pre2 (some .ret) .done rfl hsub2 ⟨λh=>(by cases h),λ_=>⟨_,pre2,rfl,hx⟩⟩
    |exit id=>
     obtain⟨pre2,hsub2,hx⟩:=hq2;exact fin pre2 (some (.exit id)) .done rfl hsub2 ⟨λh=>(by cases h),λ_=>⟨_,pre2,rfl,hx⟩⟩
    |goto t=>exact hq2.elim
    |panic ch=>exact hq2.elim
    |outgrown=>exact hq2.elim
   |_=>exact hq.elim
 have hSp:=hI.2 _ J Jx hY (inv b0++(N,.raw l (.loop (rec .ready none)))::(N+1,.tv K)::Sf) ⟨b0,hR,rfl⟩
 have hcall:=hSp.run [] m3 (N+1+1) (Zi++((N,.raw l (.loop (rec .ready none))),[l])::((N+1,.tv K),[])::Zf) (#[.func (.yield l) #[] #[]]++cs) (by simp[hzi,hzf])
  (by
   refine(G3.perm ?_).self;have:=hsl [((N+1,.tv K),[])] [((N,.raw l (.loop (rec .ready none))),[l])] Zi Zf;simpa using this) (by
   have h5:=Fh hs (VCs.mono hle03 cap (by simp) hcap);have:=(AK (m:=m3) (a:=.prim (.func (.yield l) #[] #[])) (as:=cap) (vs:=.func (.yield l) #[] #[]::cs.toList) (bs:=[]) rfl).2 ⟨_,_,[],[],rfl,rfl,⟨⟨rfl,rfl⟩,rfl⟩,h5⟩;simpa using this)
 refine⟨l,[Er m.w.heap.size],m3.w,{target:=.fn (.func gf) cs,args:=#[.func (.yield l) #[] #[]]},m3.w,gf,#[.func (.yield l) #[] #[]]++cs,m3.w,?_,?_,?_,?_,?_,?_⟩
 ·rw[hw3,<-hw2,hrec,<-hl]
  exact run_enterLoop_outer fn a.tmps ps assign body
 ·simp only[resolve,rangeCall,e1,Deferred.ofValue]
  simp[Sem.run_pure,Act.eval]
 ·exact λ_ _=>trivial
 ·have hf:=hI.1
  unfold FQ at hf;split at hf
  ·rename_i fn' hfn
   simp only[Bool.and_eq_true,Bool.not_eq_true']at hf
   have hb:fn'.body.isNone=false:=by
    cases hfb:fn'.body with
    |none=>rw[hfb]at hf;simp at hf
    |some c=>rfl
   have h1:¬fn'.name= "runtime.NumGoroutine" :=by simpa using hf.1
   have h2:¬fn'.body=none:=by intro h;rw[h]at hb;cases hb
   simp[invoke,callFunc,program,Sem.run_bind,Sem.run,Result.andThen_ok,hfn,h1,h2]
  ·cases hf
 ·exact λh=>(by simp[FW,Fence.wide]at h)
 ·refine Dj (hcall.mono ?_)
  rintro e w' ⟨v,r,S',m',N',Z',br,rfl,rfl,hm,G',hv,hq⟩;rw[List.append_nil]at hm;obtain⟨G'',_⟩:=Good.freeze (ex:=br) (ex':=[]) (by simpa using(G3.perm (by have:=hsl [((N+1,.tv K),[])] [((N,.raw l (.loop (rec .ready none))),[l])] Zi Zf;simpa using this)).after G') _ rfl;have hle':m3.Le {m' with F:=λb=>m'.F b\/b∈br}:=G'.le.trans ⟨λ_ h=>h,λ_ _ _ h=>h,λb hb=>⟨.inl hb,rfl⟩⟩
  have hT':TRel m0 {m' with F:=λb=>m'.F b\/b∈br} nt T {a with defers:=[Er m.w.heap.size]++a.defers}:=by
   have h5:=h4.mono (hle03.trans hle');refine⟨h5.1,?_,h5.2.2⟩;obtain⟨ds,h6,h7,h8⟩:=h4.2.1;refine⟨m.w.heap.size::ds,by rw[h6];rfl,List.nodup_cons.2 ⟨λh=>?_,h7⟩,λd hd=>?_⟩
   ·have:=h3.frz _ (h8 _ h).2.1
    omega
   ·rcases List.mem_cons.1 hd with rfl|hd
    ·exact⟨h3.size,(hle'.F _ h0F).1,(hle'.F _ h0F).2.trans h0D⟩
    ·obtain⟨h9,h10,h11⟩:=h8 d hd
     exact⟨h9,((hle03.trans hle').F _ h10).1,((hle03.trans hle').F _ h10).2.trans h11⟩
  have fin:∀(pre:List AA) (rc:Loop),rc.state≠ .busy->S'=pre++(N,.raw l (.loop rc))::(N+1,.tv K)::Sf->∃w4,(Instr.endLoop l).run P m'.w= .ok rc.pending w4/\Rel nt m0 ⟨T,pre++Sf⟩ {a with defers:=[Er m.w.heap.size]++a.defers} w4:=by
   rintro pre rc hrc rfl;have hrel:Rel nt m0 ⟨T,pre++(N,.raw l (.loop rc))::((N+1,.tv K)::Sf)⟩ {a with defers:=[Er m.w.heap.size]++a.defers} m'.w:=⟨{m' with F:=λb=>m'.F b\/b∈br},N',Z',rfl,hm,G'',hT'⟩;obtain⟨hb5,hr5⟩:=hrel.setRaw (o':=.loop {rc with state:=.exhausted});refine⟨_,run_endLoop hb5 hrc,hr5.sub ?_⟩;exact List.Sublist.append_left (List.Sublist.cons _ (List.Sublist.cons _ (List.Sublist.refl _))) _
  rcases hq with⟨b,hRb,hS'⟩|⟨c,pre,hS',hx⟩
  ·obtain⟨w4,h5,h6⟩:=fin (inv b) (rec .ready none) (by rw[hrec];simp) hS'
   refine⟨none,w4,by rw[h5,hrec],_,h6,hdone b hRb⟩
  ·obtain⟨w4,h5,h6⟩:=fin pre (rec .done (some c)) (by rw[hrec];simp) hS'
   exact⟨some c,w4,by rw[h5,hrec],hx m0 _ _ h6⟩
theorem Ff{β:Type}{g:Operand}{ps:Array Tmp}{assign body:Code}{Q:Exit->St->Prop}{T:List (Nat×AV)}{S Sf:List AA}{gf:FuncId}{cap:List AV}{xs:List (List AV)}(hI:Itr P gf cap xs)(inv:β->List AA)(R:Nat->β->Prop)(b0:β)(hR:R 0 b0)
  (hround:∀(i:Nat) vs b l F1 F2,xs[i]?=some vs->R i b->AWP (some l) P nt assign (IJ F1 F2 λst=>AWP (some l) P nt body (IC P nt Q T Sf (λpre=>∃b',R (i+1) b' /\pre=inv b') F2) st) ⟨Gb T ps.toList vs,inv b++F1⟩)
  (hdone:∀b,R xs.length b->Q .normal ⟨T,inv b++Sf⟩)
  (hg:ev T g=some (.fn gf cap)) (hs:B5 cap=true) (hps:ps.toList.all (Nat.blt · nt)=true) (hlen:∀vs∈xs,vs.length=ps.size) (hS:(inv b0++Sf).Sublist S):AWP none P nt (.rangeFunc g ps assign body) Q ⟨T,S⟩:=
 Fe (xs:=xs.map λvs _=>(vs,[])) hI.o inv R b0 hR (λi vs C b l F1 F2 hi hRb=>by
  rw[List.getElem?_map]at hi;obtain⟨v,hv,rfl⟩:=Option.map_eq_some_iff.1 hi;exact hround i v b l F1 F2 hv hRb) (by rw[List.length_map];exact hdone) hg hs hps (λvs hvs C=>by
  obtain⟨v,hv,rfl⟩:=List.mem_map.1 hvs;exact hlen v hv) hS
end
end
section
variable {ro:Option Nat}
open Go.RowKit
section
variable {P:Program}{nt:Nat}{ops:Array Oper}
end
end
section
variable {ro:Option Nat}
open Go.RowKit
instance {f:FuncId}{l l':List AV}[h:Frzs l l']:Frz (.fn f l) (.fn f l'):=⟨by show AV.fn f (AV.frzs l)=_;rw[h.h]⟩
instance {l l':List AV}[h:Frzs l l']:Frz (.fp l) (.fp l'):=⟨by show AV.fp (AV.frzs l)=_;rw[h.h]⟩
section
variable {P:Program}{nt:Nat}{ops:Array Oper}{Q:Exit->St->Prop}{rest:List Oper}{T:List (Nat×AV)}{S:List AA}{dst:Option Tmp}{ty t te:TypeId}{pos:String}{after:Array Edge}{g:Option (Nat×Bool)}{x y:Operand}{X p sz:Nat}{l:List AV}
theorem HL(he:Bb P t=some te)(hsz:tSz P te=some sz):OpT P ⟨dst,.buildSlice t 0 #[],ty,pos,after,g⟩ [] [(p,(X,.gone))] (.sl X 0 0) [(p,(X,.row te sz []))]:=by
 refine OpT.new_ (λm a hx=>?_);refine⟨#[],0,.slice (some ⟨m.w.heap.size,0,none⟩) 0 0,?_,by simp,by simp,by decide,by simp,⟨by simp,rfl⟩,.inr ⟨0,rfl,Nat.le_refl _,rfl⟩⟩
 have hr:(Instr.buildSlice t 0 #[]).run P m.w= .ok (.slice (some ⟨m.w.heap.size,0,none⟩) 0 0) (m.w.alloc (.cells #[] te)):=by
  simp[Instr.buildSlice,run_underlying (Al he),Az hsz,Sem.run_bind,Result.andThen_ok,Sem.run_pure,Instr.fill,newRow];rw[show∀f:Nat->Value,Array.map f (Array.range 0)=#[]from λf=>Array.size_eq_zero_iff.1 (by simp)]
 simp[execOp,Sem.run_bind,hr,Sem.run_pure,Result.andThen_ok]
theorem AOps.val{o:Oper}{xs:List (Operand×AV)}{K:AV->Prop}(hg:o.guard=none)(hnd:∀c,o.op≠ .defer c)(h:∀(m:Mem) (a:Act),(∀q∈xs,VV m q.2 (a.eval q.1) [])->∃u v,(execOp a.eval o).run P m.w= .ok (.value u) m.w/\VV m v u []/\K v)(hx:Evs T xs)(hd:AD o.dst nt=true)
  (k:∀v,K v->AOps ro P nt ops Q rest ⟨AE T o.dst v,S⟩):AOps ro P nt ops Q (o::rest) ⟨T,S⟩:=by
 rintro m0 a w ⟨m,N,Z,rfl,h2,h3,h4⟩;refine wpListIn_plain hg λK' hK=>⟨λ_ _=>trivial,?_⟩
 obtain⟨u,v,h5,h6,h7⟩:=h m a λq hq=>h4.ev (hx.all q hq)
 rw[Oper.semAt_eq _ _ _ hnd,h5];exact hK _ _ (k v h7 m0 _ _ ⟨m,N,Z,rfl,h2,h3,h4.put (AZ hd) h6⟩)
theorem AOps.isNil[TEl P t te](k:∀b:Bool,(b=true->l=[])->AOps ro P nt ops Q rest ⟨AE T dst (.prim (.bool b)),S⟩){t':TypeId}(hx:ev T x=some (.lst false t' sz l):=by rfl)(hd:AD dst nt=true:=by rfl):AOps ro P nt ops Q (⟨dst,.binOp .eql t x (.const (.slice none 0 0)) t,ty,pos,after,none⟩::rest) ⟨T,S⟩:=by
 refine AOps.val (xs:=[(x,.lst false t' sz l)]) (K:=λv=>∃b:Bool,(b=true->l=[])/\v= .prim (.bool b)) rfl (by simp) (λm a hv=>?_) (.cons hx .nil) hd λv ⟨b,hb,e⟩=>e▸k b hb
 obtain⟨_,A,cap,e1,_,_,h0⟩:=hv _ (List.mem_cons_self ..);injection e1 with e1
 simp only at e1;refine⟨.bool A.isNone,.prim (.bool A.isNone),?_,AQ _,A.isNone,λhn=>?_,rfl⟩
 ·have:=Lib.run_eql_slice_nil (P:=P) m.w t te A l.length cap 0 0 (Al TEl.h)
  have hc:a.eval (.const (.slice none 0 0))= .slice none 0 0:=rfl;have hq:(eqGuard .eql t x (.const (.slice none 0 0)) (.slice A l.length cap) (.slice none 0 0)).run P m.w= .ok () m.w:=rfl;simp[execOp,e1,hc,Sem.run_bind,Sem.run_pure,Result.andThen_ok,this,hq]
 ·cases l with
  |nil=>rfl
  |cons a l=>
   obtain⟨b,off,arr,t,r,e2,_⟩:=h0 (by simp);rw[e2]at hn;cases hn
theorem GZ[TEl P t te][TSize P te sz](k:∀X,AOps ro P nt ops Q rest ⟨AE T dst (.sl X 0 0),(X,.row te sz [])::S⟩)(hd:AD dst nt=true:=by rfl):AOps ro P nt ops Q (⟨dst,.buildSlice t 0 #[],ty,pos,after,none⟩::rest) ⟨T,S⟩:=
 AOps.rs λX=>AOps.step (o:=⟨dst,.buildSlice t 0 #[],ty,pos,after,none⟩) (xs:=[]) (rS:=[(0,(X,.gone))]) rfl (HL TEl.h TSize.h) .nil (.cons .here .nil) hd (k X)
section
variable {Si Sl Sf:List AA}{yv:Value}{xs:List (List AV)}{J:Nat->List AA->Prop}{Jx:List AA->Prop}{ats:Array TypeId}{i:Nat}{x0 x1:Operand}{v0 v1:AV}
theorem FA(hY:Yld P yv xs J Jx)(hJ:J i Sl)(hi:xs[i]?=some [v0])(kt:∀Sl',J (i+1) Sl' ->AOps ro P nt ops Q rest ⟨AE T dst (.prim (.bool true)),Si++(Sl'++Sf)⟩)(kf:∀Sl',Jx Sl' ->AOps ro P nt ops Q rest ⟨AE T dst (.prim (.bool false)),Si++(Sl'++Sf)⟩)
  (hx:ev T x=some (.prim yv):=by rfl) (h0:ev T x0=some v0:=by rfl) (ht:AS [(x0,v0)]=true:=by rfl) (hd:AD dst nt=true:=by rfl):AOps ro P nt ops Q (⟨dst,.call ⟨.value x,#[x0],ats⟩,ty,pos,after,none⟩::rest) ⟨T,Si++(Sl++Sf)⟩:=
 AOps.yield (ys:=[(x0,v0)]) hY hJ hi hx (.cons h0 .nil) ht hd kt kf
end
theorem HO{kk kk':IntKind}{zl:List Value}{ag:Bool}{m by_:Nat}{i j:Int}(a:AV)[TEl P t te][TZe P te zl][TSize P te sz][TAg P te ag][TBy P te by_](k:∀X,AOps ro P nt ops Q rest ⟨AE T dst (.sl X 0 m),(X,.row te sz (List.replicate m a))::S⟩)
  (hx:Rd none T x (.prim (.int kk i)):=by rfl) (hy:Rd none T y (.prim (.int kk' j)):=by rfl) (hq:i=(m:Int):=by rfl) (hq':j=(m:Int):=by rfl) (hm:m<=1099511627776:=by first|assumption|omega|(simp;omega)) (hby:by_<=128:=by decide) (hzs:zl.length=sz:=by exact rfl) (hag:ag=true\/zl.length=1:=by first|exact .inl rfl|exact .inr rfl) (hz:zAV zl ag=a:=by exact rfl) (hd:AD dst nt=true:=by rfl):AOps ro P nt ops Q (⟨dst,.makeSlice t x y,ty,pos,after,none⟩::rest) ⟨T,S⟩:=by
 subst hz;exact AOps.rs λX=>AOps.s (W.make hx hy .here hzs hag hq hq' (Nat.le_refl _) (Nat.le_trans (Nat.mul_le_mul hby hm) (by decide)) (Nat.le_trans hm (by decide))) hd (k X)
theorem FC{st:St}(k:AOps ro P nt ops Q (⟨dst,.makeSlice t x y,ty,pos,after,g⟩::rest) st):AOps ro P nt ops Q (⟨dst,.makeSlice t x y,ty,pos,after,g⟩::rest) st:=k
end
end
theorem Aa{P:Program}{Sf:List AA}{Q:AV->List AA->Prop}{st:St}(S':List AA)(hQ:Q (.tup []) S')(hS:(S'++Sf).Sublist st.S:=by(repeat (first|exact List.Sublist.refl _|exact List.Sublist.slnil|apply List.Sublist.cons_cons|apply List.Sublist.cons))):Ends P [] Sf Q st:=⟨[],[],st.S,S',.nil,.nil,hS,hQ⟩
section
variable {ro:Option Nat}
open Go.RowKit
def CS{β:Type}(Z:List β):List (Nat×β)->List β
 |[]=>Z
 |q::r=>CS (Z.set q.1 q.2) r
theorem Gm{β:Type}(wz:List (Nat×β)):∀Z:List β,(CS Z wz).length=Z.length:=by
 induction wz with
 |nil=>intro Z;rfl
 |cons q r ih=>intro Z;simp[CS,ih]
theorem Fi{β:Type}(wz:List (Nat×β)){p:Nat}(h:p∉wz.map (·.1)):∀Z:List β,(CS Z wz)[p]?=Z[p]?:=by
 induction wz with
 |nil=>intro Z;rfl
 |cons q r ih=>
  intro Z;simp only[List.map_cons,List.mem_cons,not_or]at h;rw[CS,ih h.2,List.getElem?_set_ne (λe=>h.1 e.symm)]
theorem HY{β:Type}(wz:List (Nat×β))(hnd:(wz.map (·.1)).Nodup):∀Z:List β,(∀q∈wz,q.1<Z.length)->∀q∈wz,(CS Z wz)[q.1]?=some q.2:=by
 induction wz with
 |nil=>intro Z _ q hq;cases hq
 |cons a r ih=>
  intro Z hlt q hq;rw[List.map_cons,List.nodup_cons]at hnd;rcases List.mem_cons.1 hq with rfl|hq
  ·rw[CS,Fi r hnd.1,List.getElem?_set_self (hlt _ (by simp))]
  ·exact ih hnd.2 _ (λq hq=>by rw[List.length_set];exact hlt q (by simp[hq])) q hq
theorem Ej(wS:List (Nat×AA)):∀S,AF S wS=CS S wS:=by
 induction wS with
 |nil=>intro S;rfl
 |cons q r ih=>intro S;exact ih _
theorem Eo{l k:List Nat}(hl:l.Nodup)(hk:k.Nodup)(h:∀x,x∈l↔x∈k):l.Perm k:=by
 rw[List.perm_iff_count];intro a;rw[hl.count,hk.count];simp only[h a]
theorem Dv{β:Type}(Z:List β):(List.range Z.length).map (λi=>Z[i]?)=Z.map some:=by
 apply List.ext_getElem (by simp);intro i h1 h2;have:i<Z.length:=by simpa using h1
 simp[this]
theorem GA{β:Type}(Z:List β)(ps:List Nat)(hnd:ps.Nodup)(hlt:∀p∈ps,p<Z.length):∃R,∀wz:List (Nat×β),wz.map (·.1)=ps->(CS Z wz).Perm (wz.map (·.2)++R):=by
 let Q:=(List.range Z.length).filter λi=>!decide (i∈ps)
 refine⟨Q.filterMap λi=>Z[i]?,λwz hw=>?_⟩;have hwn:(wz.map (·.1)).Nodup:=by rw[hw];exact hnd
 have hwl:∀q∈wz,q.1<Z.length:=λq hq=>hlt _ (by rw[<-hw];exact List.mem_map_of_mem hq)
 have h1:(List.range Z.length).Perm (ps++Q):=by
  refine(List.filter_append_perm (λi=>decide (i∈ps)) (List.range Z.length)).symm.trans ?_;refine List.Perm.append_right _ (Eo (List.nodup_range.filter _) hnd λx=>?_);simp only[List.mem_filter,List.mem_range,decide_eq_true_eq];exact⟨λh=>h.2,λh=>⟨hlt x h,h⟩⟩
 have h2:((CS Z wz).map some).Perm ((ps++Q).map λi=>(CS Z wz)[i]?):=by
  rw[<-Dv,Gm];exact h1.map _
 have h3:ps.map (λi=>(CS Z wz)[i]?)=(wz.map (·.2)).map some:=by
  rw[<-hw,List.map_map,List.map_map];exact List.map_congr_left λq hq=>HY wz hwn Z hwl q hq
 have h4:Q.map (λi=>(CS Z wz)[i]?)=(Q.filterMap λi=>Z[i]?).map some:=by
  have:∀L:List Nat,(∀i∈L,i∉ps/\i<Z.length)->L.map (λi=>(CS Z wz)[i]?)=(L.filterMap λi=>Z[i]?).map some:=by
   intro L
   induction L with
   |nil=>intro _;rfl
   |cons i L ih=>
    intro h;have hi:=h i (by simp);rw[List.map_cons,ih λj hj=>h j (by simp[hj]),Fi wz (by rw[hw];exact hi.1),List.getElem?_eq_getElem hi.2,List.filterMap_cons,List.getElem?_eq_getElem hi.2];rfl
  refine this Q λi hi=>?_
  have:=List.mem_filter.1 hi;simpa using And.comm.1 this
 rw[List.map_append,h3,h4,<-List.map_append]at h2;have h5:=h2.filterMap id;simpa[List.filterMap_map]using h5
inductive TW:AV->AV->List AA->Prop
 |frz {a:AV}:TW a a.frz []
 |lst {t:TypeId} {sz:Nat} {l:List AV} {Y n:Nat} (h:n=l.length):TW (.lst true t sz l) (.sl Y 0 n) [(Y,.row t sz l)]
 |bx {t:TypeId} {a:AV} {Y n:Nat} (h:n=a.width):TW (.bx t a) (.ptr Y 0 0) [(Y,.row t n [a])]
inductive TWs:List AV->List AV->List AA->Prop
 |nil:TWs [] [] []
 |cons {a b:AV} {as bs:List AV} {s r:List AA} (h:TW a b s) (k:TWs as bs r):TWs (a::as) (b::bs) (s++r)
inductive TV:AV->AV->List AA->Prop
 |cell {a b:AV} {s:List AA} (h:TW a b s) (ha:DL a=true) (hb:DL b=true):TV a b s
 |agg {as bs:List AV} {s:List AA} (h:TWs as bs s):TV (.agg as) (.agg bs) s
inductive TVs:List AV->List AV->List AA->Prop
 |nil:TVs [] [] []
 |cons {a b:AV} {as bs:List AV} {s r:List AA} (h:TV a b s) (ha:ntup a=true) (hb:ntup b=true) (k:TVs as bs r):TVs (a::as) (b::bs) (s++r)
inductive TR:AV->AV->List AA->Prop
 |frz {a:AV}:TR a a.frz []
 |v {a b:AV} {s:List AA} (h:TV a b s):TR a b s
 |tup {as bs:List AV} {s:List AA} (h:TVs as bs s):TR (.tup as) (.tup bs) s
def Ac(s:List AA):List AA:=s.map λe=>(e.1,.gone)
section
variable {m0 m:Mem}{N:Nat}{R:Zs}{ex:List Nat}
theorem DA{Y:Nat}{bsY br:List Nat}{t:TypeId}{sz:Nat}{l:List AV}(G:Good m0 m N (((Y,.gone),bsY)::R) (br++ex))(L:Loc)(hL:L.sz=sz)
  (h:(L.isNil=true/\l=[]/\br=[])\/(L.isNil=false/\∃arr bs',br=L.blk::bs' /\m.w.heap[L.blk]?=some (.cells arr t (0,0))/\arr.size=L.cap*sz/\l.length<=L.cap/\L.cap<=maxLen/\(∀e∈l,e.width=sz)/\VCs m l (arr.toList.take (l.length*sz)) bs')):
  Good m0 ⟨λy=>if y=Y then some L else m.μ y,λy=>m.U y\/y=Y,m.w,m.F⟩ N (((Y,.row t sz l),br)::R) ex/\m.Le ⟨λy=>if y=Y then some L else m.μ y,λy=>m.U y\/y=Y,m.w,m.F⟩:=by
 have hg:=G.obj _ (List.mem_cons_self ..);obtain⟨rfl,hYU⟩:=hg
 have hle:m.Le ⟨λy=>if y=Y then some L else m.μ y,λy=>m.U y\/y=Y,m.w,m.F⟩:=by
  refine⟨λy h=>.inl h,λy L' hy hL=>?_,λb hb=>⟨hb,rfl⟩⟩;simp only at hL;split at hL
  ·rename_i e;subst e;exact absurd hy hYU
  ·exact hL
 refine⟨?_,hle⟩;have hkN:Y<N:=G.keyN Y (by simp[Zs.keys])
 have hown:(br++ex).Nodup:=by
  have:=G.own;rw[List.nodup_append]at this;exact this.2.1
 refine Good.swap (zs:=[((Y,.gone),[])]) (zs':=[((Y,.row t sz l),br)]) (R:=R) G hle (Nat.le_refl _) (λy hy _=>?_) (λ_ _ _ _=>rfl) ?_ (by simpa[Zs.own]using hown) (λb hb=>?_) (λb hb=>⟨G.frz b hb,.inl hb⟩) (by simp[Zs.keys]) (λy hy=>?_) (λy hy=>?_) rfl rfl rfl (Nat.le_refl _)
 ·simp only[Zs.keys,List.map_cons,List.map_nil,List.mem_singleton]at hy
  simp only;rw[if_neg hy]
 ·intro z hz
  simp only[List.mem_singleton]at hz;subst hz;refine⟨.inr rfl,L,by simp,hL,?_⟩;rcases h with h|⟨h1,arr,bs',e1,e2,e3,e4,e5,e6,e7⟩
  ·exact .inl h
  ·exact .inr ⟨h1,arr,bs',e1,e2,e3,e4,e5,e6,VCs.mono hle l (λ_ _=>rfl) e7⟩
 ·have hb':b∈br++ex:=by simpa[Zs.own]using hb
  have:=G.blk b (List.mem_append_right _ hb');exact⟨this.1,this.2,.inr (.inl hb')⟩
 ·simp only[Zs.keys,List.map_cons,List.map_nil,List.mem_singleton]at hy
  subst hy;exact⟨hkN,.inl (by simp[Zs.keys])⟩
 ·rcases hy with hy|rfl
  ·exact⟨G.usedN y hy,.inl hy⟩
  ·exact⟨hkN,.inr (.inl (by simp[Zs.keys]))⟩
theorem TW.sound{a b:AV}{s:List AA}(h:TW a b s):∀{m:Mem} {br ex:List Nat} {G:Zs} {c:List Value},G.map (·.1)=Ac s->Good m0 m N (G++R) (br++ex)->VC m a c br->
  ∃m' Z',m'.w=m.w/\Z'.map (·.1)=s/\Good m0 m' N (Z'++R) ex/\m.Le m' /\VC m' b c []:=by
 intro m br ex G c hG g hv;cases h with
 |frz=>
  have:G=[]:=by simpa[Ac]using hG
  subst this;obtain⟨G2,hle⟩:=g.freeze _ rfl;exact⟨{m with F:=λb=>m.F b\/b∈br},[],rfl,rfl,G2,hle,VC.frz hle a (λb hb=>⟨.inr hb,rfl⟩) hv⟩
 | @lst t sz l Y n hn=>
  cases G with
  |nil=>simp[Ac]at hG
  |cons z G=>
   simp only[Ac,List.map_cons,List.map_nil,List.cons.injEq,List.map_eq_nil_iff]at hG;obtain⟨hz,rfl⟩:=hG;obtain⟨⟨y,o⟩,bsY⟩:=z;simp only[Prod.mk.injEq]at hz;obtain⟨rfl,rfl⟩:=hz;rcases hv with⟨rfl,rfl,rfl⟩|⟨gb,cap,arr,bs',rfl,rfl,e1,e2,e3,e4,e5,e6⟩
   ·obtain⟨G',hle⟩:=DA (br:=[]) (t:=t) (sz:=sz) (l:=[]) g ⟨0,0,sz,true⟩ rfl (.inl ⟨rfl,rfl,rfl⟩)
    refine⟨(⟨λx=>if x=y then some ⟨0,0,sz,true⟩else m.μ x,λx=>m.U x\/x=y,m.w,m.F⟩:Mem),[((y,.row t sz []),[])],rfl,rfl,G',hle,rfl,.inr rfl,none,0,by rw[hn];rfl,λL hL=>?_⟩;simp only[if_true,Option.some.injEq]at hL;subst hL;exact .inl ⟨rfl,by rw[hn];rfl,rfl,hn⟩
   ·obtain⟨G',hle⟩:=DA (br:=gb::bs') (t:=t) (sz:=sz) (l:=l) g ⟨gb,cap,sz,false⟩ rfl (.inr ⟨rfl,arr,bs',rfl,e1,e2,e3,e4,e5,e6⟩)
    refine⟨(⟨λx=>if x=y then some ⟨gb,cap,sz,false⟩else m.μ x,λx=>m.U x\/x=y,m.w,m.F⟩:Mem),[((y,.row t sz l),gb::bs')],rfl,rfl,G',hle,rfl,.inr rfl,_,cap,by rw[hn],λL hL=>?_⟩;simp only[if_true,Option.some.injEq]at hL;subst hL;exact .inr ⟨rfl,by simp only;omega,0,by simp,λ_=>by simp⟩
 | @bx t a Y n hn=>
  cases G with
  |nil=>simp[Ac]at hG
  |cons z G=>
   simp only[Ac,List.map_cons,List.map_nil,List.cons.injEq,List.map_eq_nil_iff]at hG;obtain⟨hz,rfl⟩:=hG;obtain⟨⟨y,o⟩,bsY⟩:=z;simp only[Prod.mk.injEq]at hz;obtain⟨rfl,rfl⟩:=hz;obtain⟨gb,arr,bs',rfl,rfl,e1,⟨cap,e2,e3,e4⟩,e5⟩:=hv;subst hn;obtain⟨G',hle⟩:=DA (br:=gb::bs') (t:=t) (sz:=a.width) (l:=[a]) g ⟨gb,cap,a.width,false⟩ rfl (.inr ⟨rfl,arr,bs',rfl,e1,e2,e3,e4,λe he=>by rw[List.mem_singleton.1 he],by simpa using VCs.one.2 e5⟩);refine⟨(⟨λx=>if x=y then some ⟨gb,cap,a.width,false⟩else m.μ x,λx=>m.U x\/x=y,m.w,m.F⟩:Mem),[((y,.row t a.width [a]),gb::bs')],rfl,rfl,G',hle,rfl,.inr rfl,_,rfl,λL hL=>?_⟩;simp only[if_true,Option.some.injEq]at hL;subst hL;simp
theorem TWs.sound{as bs:List AV}{s:List AA}(h:TWs as bs s):∀{R:Zs} {m:Mem} {br ex:List Nat} {G:Zs} {c:List Value},G.map (·.1)=Ac s->Good m0 m N (G++R) (br++ex)->VCs m as c br->
  ∃m' Z',m'.w=m.w/\Z'.map (·.1)=s/\Good m0 m' N (Z'++R) ex/\m.Le m' /\VCs m' bs c []:=by
 induction h with
 |nil=>
  intro R m br ex G c hG g hv;obtain⟨rfl,rfl⟩:=hv;have:G=[]:=by simpa[Ac]using hG
  subst this;exact⟨m,[],rfl,rfl,g,.refl _,rfl,rfl⟩
 | @cons a b as bs s r h k ih=>
  intro R m br ex G c hG g hv;obtain⟨c1,c2,b1,b2,rfl,rfl,h1,h2⟩:=hv;rw[Ac,List.map_append]at hG;obtain⟨G1,G2,rfl,hG1,hG2⟩:=AN hG;obtain⟨m1,Z1,hw1,hZ1,g1,hle1,v1⟩:=h.sound (R:=G2++R) (ex:=b2++ex) hG1 (by simpa using g) h1
  have g1':Good m0 m1 N (G2++(Z1++R)) (b2++ex):=g1.perm (by
   rw[<-List.append_assoc,<-List.append_assoc];exact List.Perm.append_right _ List.perm_append_comm)
  obtain⟨m2,Z2,hw2,hZ2,g2,hle2,v2⟩:=ih (R:=Z1++R) hG2 g1' (VCs.mono hle1 as (λb _=>by rw[hw1]) h2)
  refine⟨m2,Z1++Z2,hw2.trans hw1,by simp[hZ1,hZ2],g2.perm (by
   rw[<-List.append_assoc];exact List.Perm.append_right _ List.perm_append_comm),hle1.trans hle2,c1,c2,[],[],rfl,rfl,VC.mono hle2 b (λ_ hb=>by cases hb) v1,v2⟩
theorem TV.sound{a b:AV}{s:List AA}(h:TV a b s):∀{R:Zs} {m:Mem} {br ex:List Nat} {G:Zs} {u:Value},G.map (·.1)=Ac s->Good m0 m N (G++R) (br++ex)->VV m a u br->
  ∃m' Z',m'.w=m.w/\Z'.map (·.1)=s/\Good m0 m' N (Z'++R) ex/\m.Le m' /\VV m' b u []:=by
 intro R m br ex G u hG g hv;cases h with
 |cell h ha hb=>
  obtain⟨m',Z',h1,h2,h3,h4,h5⟩:=h.sound hG g ((Dn ha).1 hv);exact⟨m',Z',h1,h2,h3,h4,(Dn hb).2 h5⟩
 |agg h=>
  obtain⟨cells,rfl,hv⟩:=hv;obtain⟨m',Z',h1,h2,h3,h4,h5⟩:=h.sound hG g hv;exact⟨m',Z',h1,h2,h3,h4,cells,rfl,h5⟩
theorem TVs.sound{as bs:List AV}{s:List AA}(h:TVs as bs s):∀{R:Zs} {m:Mem} {br ex:List Nat} {G:Zs} {us:List Value},G.map (·.1)=Ac s->Good m0 m N (G++R) (br++ex)->VTs m as us br->
  ∃m' Z',m'.w=m.w/\Z'.map (·.1)=s/\Good m0 m' N (Z'++R) ex/\m.Le m' /\VTs m' bs us []:=by
 induction h with
 |nil=>
  intro R m br ex G c hG g hv;obtain⟨rfl,rfl⟩:=hv;have:G=[]:=by simpa[Ac]using hG
  subst this;exact⟨m,[],rfl,rfl,g,.refl _,rfl,rfl⟩
 | @cons a b as bs s r h ha hb k ih=>
  intro R m br ex G c hG g hv;obtain⟨u,us,b1,b2,rfl,rfl,h1,h2⟩:=(AK ha).1 hv;rw[Ac,List.map_append]at hG;obtain⟨G1,G2,rfl,hG1,hG2⟩:=AN hG;obtain⟨m1,Z1,hw1,hZ1,g1,hle1,v1⟩:=h.sound (R:=G2++R) (ex:=b2++ex) hG1 (by simpa using g) h1
  have g1':Good m0 m1 N (G2++(Z1++R)) (b2++ex):=g1.perm (by
   rw[<-List.append_assoc,<-List.append_assoc];exact List.Perm.append_right _ List.perm_append_comm)
  obtain⟨m2,Z2,hw2,hZ2,g2,hle2,v2⟩:=ih (R:=Z1++R) hG2 g1' (VTs.mono hle1 as (λb _=>by rw[hw1]) h2)
  refine⟨m2,Z1++Z2,hw2.trans hw1,by simp[hZ1,hZ2],g2.perm (by
   rw[<-List.append_assoc];exact List.Perm.append_right _ List.perm_append_comm),hle1.trans hle2,(AK hb).2 ⟨u,us,[],[],rfl,rfl,VV.mono hle2 (λ_ hb=>by cases hb) v1,v2⟩⟩
theorem TR.sound{a b:AV}{s:List AA}(h:TR a b s){R:Zs}{m:Mem}{br ex:List Nat}{G:Zs}{u:Value}(hG:G.map (·.1)=Ac s)(g:Good m0 m N (G++R) (br++ex))(hv:VV m a u br):
  ∃m' Z',m'.w=m.w/\Z'.map (·.1)=s/\Good m0 m' N (Z'++R) ex/\m.Le m' /\VV m' b u []:=by
 cases h with
 |frz=>
  have:G=[]:=by simpa[Ac]using hG
  subst this;obtain⟨G2,hle⟩:=g.freeze _ rfl;exact⟨{m with F:=λb=>m.F b\/b∈br},[],rfl,rfl,G2,hle,VV.frz hle (λb hb=>⟨.inr hb,rfl⟩) hv⟩
 |v h=>exact h.sound hG g hv
 |tup h=>
  obtain⟨us,rfl,hv⟩:=hv;obtain⟨m',Z',h1,h2,h3,h4,h5⟩:=h.sound hG g hv;exact⟨m',Z',h1,h2,h3,h4,us,rfl,h5⟩
end
theorem F7{β:Type}(wz:List (Nat×β)):∀Z:List β,(∀q∈wz,Z[q.1]?=some q.2)->CS Z wz=Z:=by
 induction wz with
 |nil=>intro Z _;rfl
 |cons q r ih=>
  intro Z h;have h1:=h q (by simp);obtain⟨h2,h3⟩:=List.getElem?_eq_some_iff.1 h1;have:Z.set q.1 q.2=Z:=by rw[<-h3];exact List.set_getElem_self h2
  rw[CS,this];exact ih Z λq hq=>h q (by simp[hq])
section
variable {P:Program}{ty:TypeId}{pos:String}{after:Array Edge}{g:Option (Nat×Bool)}{dst:Option Tmp}{xs:List (Operand×AV)}{f:FuncId}{ats:Array TypeId}{r v:AV}{Sin Sout news:List AA}{rS wS:List (Nat×AA)}
theorem Ch{β:Type}{C:β->Prop}{rr vv:β->AV}{So nw:β->List AA}{gs:List AA}{wE:β->List (Nat×AA)}{nt:Nat}{m0:Mem}{T:List (Nat×AV)}{S:List AA}{a:Act}{args:List AV}{vals:Array Value}(h:Spec P f args Sin λr' S'=>∃b,C b/\r'=rr b/\S'=So b)(hT:∀b,TR (rr b) (vv b) (nw b))(hgs:∀b,Ac (nw b)=gs)(hr:rS.map (·.2)=Sin++gs)(hw:∀b,(wE b).map (·.2)=So b++nw b)(hp:∀b,(wE b).map (·.1)=rS.map (·.1))(hnd:(rS.map (·.1)).Nodup)
  (hS:∀q∈rS,S[q.1]?=some q.2) (hd:∀d,dst=some d->d<nt) {m:Mem} {N:Nat} {Z:Zs} (h2:Z.map (·.1)=S) (h3:Good m0 m N Z []) (h4:TRel m0 m nt T a) (hv:VTs m args vals.toList []):
  Calls P f vals m.w λe w'=>∃u,e= .returned u/\∃b,C b/\Rel nt m0 ⟨AE T dst (vv b),AF S (wE b)⟩ (a.put dst u) w':=by
 obtain⟨RS,hR⟩:=GA S (rS.map (·.1)) hnd (λp hp=>by
  obtain⟨q,hq,rfl⟩:=List.mem_map.1 hp;exact(List.getElem?_eq_some_iff.1 (hS q hq)).1)
 have p1:=hR rS rfl;rw[F7 rS S hS,hr,List.append_assoc]at p1;obtain⟨Z1,hz1,hz2⟩:=CN (λz:AA×List Nat=>z.1) p1 h2;refine(h.run _ m N Z1 vals hz2 (h3.perm hz1).self hv).mono ?_;rintro e w' ⟨u,r',S',m',N',Z',br,rfl,rfl,hm,G',hu,b,hb,rfl,rfl⟩;have p2:=hR (wE b) (hp b);rw[hw,List.append_assoc,<-Ej]at p2;obtain⟨Zo,Zr,rfl,ho,hzr⟩:=AN hm;obtain⟨Zg,Zf,rfl,hg,hf⟩:=AN hzr;have G1:=h3.perm hz1 |>.after G'
 have G2:Good m0 m' N' (Zg++(Zo++Zf)) (br++[]):=by
  have:=G1.perm (Z':=Zg++(Zo++Zf)) (by
   rw[<-List.append_assoc,<-List.append_assoc];exact List.Perm.append_right _ List.perm_append_comm)
  simpa using this
 obtain⟨m2,Zn,hw2,hn,G3,hle,hv2⟩:=(hT b).sound (hg.trans (hgs b).symm) G2 hu
 have G4:=G3.perm (Z':=Zo++(Zn++Zf)) (by
  rw[<-List.append_assoc,<-List.append_assoc];exact List.Perm.append_right _ List.perm_append_comm)
 obtain⟨Z3,hz3,hz4⟩:=CN (λz:AA×List Nat=>z.1) (S':=AF S (wE b)) p2.symm (Z:=Zo++(Zn++Zf)) (by simp[ho,hn,hf]);exact⟨u,rfl,b,hb,m2,N',Z3,hw2,hz4,G4.perm hz3,((h4.mono G'.le).mono hle).put hd hv2⟩
theorem GS{nt:Nat}{m0:Mem}{T:List (Nat×AV)}{S:List AA}{a:Act}{args:List AV}{vals:Array Value}(h:Spec P f args Sin λr' S'=>r'=r/\S'=Sout)(hT:TR r v news)(hr:rS.map (·.2)=Sin++Ac news)(hw:wS.map (·.2)=Sout++news)(hp:wS.map (·.1)=rS.map (·.1))(hnd:(rS.map (·.1)).Nodup)
  (hS:∀q∈rS,S[q.1]?=some q.2) (hd:∀d,dst=some d->d<nt) {m:Mem} {N:Nat} {Z:Zs} (h2:Z.map (·.1)=S) (h3:Good m0 m N Z []) (h4:TRel m0 m nt T a) (hv:VTs m args vals.toList []):
  Calls P f vals m.w λe w'=>∃u,e= .returned u/\Rel nt m0 ⟨AE T dst v,AF S wS⟩ (a.put dst u) w':=
 (Ch (β:=Unit) (C:=λ_=>True) (rr:=λ_=>r) (vv:=λ_=>v) (So:=λ_=>Sout) (nw:=λ_=>news) (wE:=λ_=>wS) (h.mono λr' S' ⟨e1,e2⟩=>⟨(),trivial,e1,e2⟩) (λ_=>hT) (λ_=>rfl) hr (λ_=>hw) (λ_=>hp) hnd hS hd h2 h3 h4 hv).mono λe w' ⟨u,e1,_,_,k⟩=>⟨u,e1,k⟩
theorem B6{β:Type}{C:β->Prop}{sE:β->St}{ro:Option Nat}{nt:Nat}{m0:Mem}{o:Oper}{a:Act}{w:World}{K:Act->World->Prop}{Q:Exit->Act->World->Prop}(hnd:∀c,o.op≠ .defer c)(h:o.wp P a w (λa' w'=>∃b,C b/\Rel nt m0 (sE b) a' w') (λ_ _ _=>False))(hK:∀a' w',(∃b,C b/\Rel nt m0 (sE b) a' w')->K a' w'):o.wpIn (FW ro) 0 P a w K Q:=by
 refine⟨λ_ _=>trivial,?_⟩;rw[show o.semAt (FW ro).round a.eval=execOp a.eval o from Oper.semAt_eq _ _ _ hnd];unfold Oper.wp at h;cases hr:(execOp a.eval o).run P w with
 |ok n w'=>
  rw[hr]at h
  cases n<;>simp only[Oper.upon,Oper.uponIn]at h⊢<;>
   first
    |exact hK _ _ h
    |exact⟨λh=>(by simp[FW,Fence.wide]at h),CallsIn.mono (Dj h) (λe w'' he=>by cases e<;>first|exact hK _ _ he|exact he.elim|exact(by obtain⟨_,_,hh⟩:=he;exact hh.elim))⟩
    |exact⟨λh=>(by simp[FW,Fence.wide]at h),RowsIn.mono (Fj h) (λ_ _ he=>hK _ _ he)⟩
 |halt x w'=>rw[hr]at h;cases x<;>simp only[Oper.upon]at h
theorem Br(h:Spec P f (xs.map (·.2)) Sin λr' S'=>r'=r/\S'=Sout)(ht:AS xs=true)(hT:TR r v news)(hr:rS.map (·.2)=Sin++Ac news)(hw:wS.map (·.2)=Sout++news)(hp:wS.map (·.1)=rS.map (·.1))(hnd:(rS.map (·.1)).Nodup):
  OpT P ⟨dst,.call ⟨.value (.func f),(xs.map (·.1)).toArray,ats⟩,ty,pos,after,g⟩ xs rS v wS:=by
 intro nt m0 T S a w hx hS hd hrel;obtain⟨m,N,Z,rfl,h2,h3,h4⟩:=hrel;refine CI (λ_=>rfl) h.fn ?_;exact GS h hT hr hw hp hnd hS hd h2 h3 h4 (by have:=B7 (A1 ht) λq hq=>h4.ev (hx q hq);simpa[Function.comp_def]using this)
inductive Pos(S:List AA):List AA->List AA->List (Nat×AA)->List (Nat×AA)->Prop
 |nil:Pos S [] [] [] []
 |cons {a b:AA} {as bs:List AA} {rs ws:List (Nat×AA)} {p:Nat} (h:At S p a) (k:Pos S as bs rs ws):Pos S (a::as) (b::bs) ((p,a)::rs) ((p,b)::ws)
theorem Pos.all{S as bs:List AA}{rs ws:List (Nat×AA)}(h:Pos S as bs rs ws):rs.map (·.2)=as/\ws.map (·.2)=bs/\ws.map (·.1)=rs.map (·.1)/\Gets S rs:=by
 induction h with
 |nil=>exact⟨rfl,rfl,rfl,.nil⟩
 |cons h k ih=>exact⟨by simp[ih.1],by simp[ih.2.1],by simp[ih.2.2.1],.cons h ih.2.2.2⟩
theorem Bx{β:Type}{C:β->Prop}{rr vv:β->AV}{So nw:β->List AA}{gs:List AA}{wE:β->List (Nat×AA)}{nt:Nat}{ops:Array Oper}{Q:Exit->St->Prop}{rest:List Oper}{T:List (Nat×AV)}{S:List AA}(h:Spec P f (xs.map (·.2)) Sin λr' S'=>∃b,C b/\r'=rr b/\S'=So b)(hT:∀b,TR (rr b) (vv b) (nw b))(hgs:∀b,Ac (nw b)=gs)(hpos:∀b,Pos S (Sin++gs) (So b++nw b) rS (wE b))(hnd:(rS.map (·.1)).Nodup)(hr:rS.map (·.2)=Sin++gs)(hG:Gets S rS)(hx:Evs T xs)(ht:AS xs=true)(hd:AD dst nt=true)
  (k:∀b,C b->AOps ro P nt ops Q rest ⟨AE T dst (vv b),AF S (wE b)⟩):AOps ro P nt ops Q (⟨dst,.call ⟨.value (.func f),(xs.map (·.1)).toArray,ats⟩,ty,pos,after,none⟩::rest) ⟨T,S⟩:=by
 rintro m0 a w ⟨m,N,Z,rfl,h2,h3,h4⟩;refine wpListIn_plain rfl λK hK=>B6 (C:=C) (sE:=λb=>⟨AE T dst (vv b),AF S (wE b)⟩) (by simp) (CI (λ_=>rfl) h.fn (Ch h hT hgs hr (λb=>(hpos b).all.2.1) (λb=>(hpos b).all.2.2.1) hnd hG.all (AZ hd) h2 h3 h4 ?_)) λa' w' ⟨b,hb,hrel⟩=>hK _ _ (k b hb m0 _ _ hrel)
 have:=B7 (A1 ht) λq hq=>h4.ev (hx.all q hq)
 simpa[Function.comp_def]using this
theorem TR.fz{r v:AV}[h:Frz r v]:TR r v []:=h.h▸ .frz
theorem TR.ls{t:TypeId}{sz:Nat}{l:List AV}{Y:Nat}:TR (.lst true t sz l) (.sl Y 0 l.length) [(Y,.row t sz l)]:=.v (.cell (.lst rfl) rfl rfl)
end
section
variable {m0 m:Mem}{N:Nat}{R:Zs}{ex:List Nat}
theorem Good.bag{z z':AA×List Nat}{B:List Nat}(G:Good m0 m N (z::R) ex)(hk:z'.1.1=z.1.1)(ho:ORel m z'.1.1 z'.1.2 z'.2)(hp:z.2.Perm (B++z'.2)):Good m0 m N (z'::R) (B++ex):=by
 have p1:(Zs.own (z::R)++ex).Perm (Zs.own (z'::R)++(B++ex)):=by
  simp only[AT];refine((hp.append_right _).append_right _).trans ?_;rw[List.append_assoc,List.append_assoc,List.append_assoc];refine List.perm_append_comm.trans ?_;simp only[List.append_assoc];refine List.Perm.append_left _ (List.Perm.append_left _ ?_);exact List.perm_append_comm
 refine⟨?_,p1.nodup_iff.1 G.own,λb hb=>G.blk b (p1.mem_iff.2 hb),G.frz,?_,?_,G.usedN,G.le,G.os,G.tape,G.output,G.size⟩
 ·intro q hq
  rcases List.mem_cons.1 hq with rfl|hq
  ·exact ho
  ·exact G.obj q (List.mem_cons_of_mem _ hq)
 ·have:=G.keys
  simpa[Zs.keys,hk]using this
 ·intro x hx
  refine G.keyN x ?_;simpa[Zs.keys,hk]using hx
end
section
variable {nt:Nat}{st:St}
end
end
section
variable {ro:Option Nat}
theorem Pos.f{S as bs:List AA}{rs ws:List (Nat×AA)}(h:Pos S as bs rs ws:=by(repeat (first|exact .nil|(apply Pos.cons;exact At.f)))):Pos S as bs rs ws:=h
section
variable {P:Program}{nt:Nat}{ops:Array Oper}{Q:Exit->St->Prop}{l rest:List Oper}{acc:List Eff}{T:List (Nat×AV)}{S:List AA}{rS wS:List (Nat×AA)}{v:AV}{ty:TypeId}{pos:String}{after:Array Edge}{dst:Option Tmp}{ats:Array TypeId}{f:FuncId}{r:AV}{Sin Sout news:List AA}{c:Option (List Bool)}{code:Code}
def BU:List Nat->Bool
 |[]=>true
 |a::l=>!(l.any (Nat.beq a))&&BU l
theorem A6:∀{l:List Nat},BU l=true->l.Nodup
 |[],_=>.nil
 |a::l,h=>by
  simp only[BU,Bool.and_eq_true,Bool.not_eq_true',List.any_eq_false]at h;exact List.nodup_cons.2 ⟨λhm=>h.1 a hm (by simp),A6 h.2⟩
theorem HJ{x0:Operand}{v0:AV}{g:Option (Nat×Bool)}(h0:Rd c T x0 v0)(h:Spec P f ([v0]) Sin λr' S'=>r'=r/\S'=Sout)(hT:TR r v news)(hpos:Pos S (Sin++Ac news) (Sout++news) rS wS)(hnd:BU (rS.map (·.1))=true)(ht:AS [(x0,v0)]=true):Stp c P ⟨dst,.call ⟨.value (.func f),#[x0],ats⟩,ty,pos,after,g⟩ T S [(x0,v0)] rS v wS:=⟨Br (xs:=[(x0,v0)]) h ht hT hpos.all.1 hpos.all.2.1 hpos.all.2.2.1 (A6 hnd),(.cons h0 .nil),hpos.all.2.2.2⟩
theorem HR{x0:Operand}{v0:AV}{β:Type}{C:β->Prop}{t:TypeId}{sz:Nat}{ll:β->List AV}(h:Spec P f [v0] [] λr' S'=>∃b,C b/\r'= .lst true t sz (ll b)/\S'=[])(k:∀b,C b->∀Y,AOps ro P nt ops Q rest ⟨AE T dst (.sl Y 0 (ll b).length),(Y,.row t sz (ll b))::S⟩)(h0:Rd none T x0 v0:=by rfl)(ht:AS [(x0,v0)]=true:=by rfl)(hd:AD dst nt=true:=by rfl):AOps ro P nt ops Q (⟨dst,.call ⟨.value (.func f),#[x0],ats⟩,ty,pos,after,none⟩::rest) ⟨T,S⟩:=AOps.rs λY=>Bx (xs:=[(x0,v0)]) (rS:=[(0,(Y,.gone))]) (gs:=[(Y,.gone)]) (nw:=λb=>[(Y,.row t sz (ll b))]) (wE:=λb=>[(0,(Y,.row t sz (ll b)))]) h (λb=>.ls) (λ_=>rfl) (λ_=>.cons .here .nil) (by simp) rfl (.cons .here .nil) (.cons h0 .nil) ht hd λb hb=>k b hb Y
theorem HT{x0:Operand}{v0:AV}{β:Type}{C:β->Prop}{rr vv:β->AV}{X p:Nat}{ob:AO}{oo:β->AO}(h:Spec P f [v0] [(X,ob)] λr' S'=>∃b,C b/\r'=rr b/\S'=[(X,oo b)])[hf:∀b,Frz (rr b) (vv b)](k:∀b,C b->AOps ro P nt ops Q rest ⟨AE T dst (vv b),AF S [(p,(X,oo b))]⟩)(hSp:At S p (X,ob):=by exact At.f)(h0:Rd none T x0 v0:=by rfl)(ht:AS [(x0,v0)]=true:=by rfl)(hd:AD dst nt=true:=by rfl):AOps ro P nt ops Q (⟨dst,.call ⟨.value (.func f),#[x0],ats⟩,ty,pos,after,none⟩::rest) ⟨T,S⟩:=Bx (xs:=[(x0,v0)]) (rS:=[(p,(X,ob))]) (nw:=λ_=>[]) (wE:=λb=>[(p,(X,oo b))]) h (λb=>.fz) (λ_=>rfl) (λ_=>.cons hSp .nil) (by simp) rfl (.cons hSp .nil) (.cons h0 .nil) ht hd k
theorem Hs{x0:Operand}{v0:AV}{t:TypeId}{sz:Nat}{ll:List AV}(h:PS P f ([v0]) (.lst true t sz ll))(k:∀Y,AOps ro P nt ops Q rest ⟨AE T dst (.sl Y 0 ll.length),(Y,.row t sz ll)::S⟩)(h0:Rd none T x0 v0:=by rfl)(ht:AS [(x0,v0)]=true:=by rfl)(hd:AD dst nt=true:=by rfl):AOps ro P nt ops Q (⟨dst,.call ⟨.value (.func f),#[x0],ats⟩,ty,pos,after,none⟩::rest) ⟨T,S⟩:=AOps.rs λY=>AOps.s (HJ h0 h (.ls (Y:=Y)) (.cons .here .nil) rfl ht) hd (k Y)
theorem HI{x0:Operand}{v0:AV}{x1:Operand}{v1:AV}{g:Option (Nat×Bool)}(h0:Rd c T x0 v0)(h1:Rd c T x1 v1)(h:Spec P f ([v0,v1]) Sin λr' S'=>r'=r/\S'=Sout)(hT:TR r v news)(hpos:Pos S (Sin++Ac news) (Sout++news) rS wS)(hnd:BU (rS.map (·.1))=true)(ht:AS [(x0,v0),(x1,v1)]=true):Stp c P ⟨dst,.call ⟨.value (.func f),#[x0,x1],ats⟩,ty,pos,after,g⟩ T S [(x0,v0),(x1,v1)] rS v wS:=⟨Br (xs:=[(x0,v0),(x1,v1)]) h ht hT hpos.all.1 hpos.all.2.1 hpos.all.2.2.1 (A6 hnd),(.cons h0 (.cons h1 .nil)),hpos.all.2.2.2⟩
theorem Hr{x0:Operand}{v0:AV}{x1:Operand}{v1:AV}{t:TypeId}{sz:Nat}{ll:List AV}(h:PS P f ([v0,v1]) (.lst true t sz ll))(k:∀Y,AOps ro P nt ops Q rest ⟨AE T dst (.sl Y 0 ll.length),(Y,.row t sz ll)::S⟩)(h0:Rd none T x0 v0:=by rfl)(h1:Rd none T x1 v1:=by rfl)(ht:AS [(x0,v0),(x1,v1)]=true:=by rfl)(hd:AD dst nt=true:=by rfl):AOps ro P nt ops Q (⟨dst,.call ⟨.value (.func f),#[x0,x1],ats⟩,ty,pos,after,none⟩::rest) ⟨T,S⟩:=AOps.rs λY=>AOps.s (HI h0 h1 h (.ls (Y:=Y)) (.cons .here .nil) rfl ht) hd (k Y)
theorem HH{x0:Operand}{v0:AV}{x1:Operand}{v1:AV}{x2:Operand}{v2:AV}{g:Option (Nat×Bool)}(h0:Rd c T x0 v0)(h1:Rd c T x1 v1)(h2:Rd c T x2 v2)(h:Spec P f ([v0,v1,v2]) Sin λr' S'=>r'=r/\S'=Sout)(hT:TR r v news)(hpos:Pos S (Sin++Ac news) (Sout++news) rS wS)(hnd:BU (rS.map (·.1))=true)(ht:AS [(x0,v0),(x1,v1),(x2,v2)]=true):Stp c P ⟨dst,.call ⟨.value (.func f),#[x0,x1,x2],ats⟩,ty,pos,after,g⟩ T S [(x0,v0),(x1,v1),(x2,v2)] rS v wS:=⟨Br (xs:=[(x0,v0),(x1,v1),(x2,v2)]) h ht hT hpos.all.1 hpos.all.2.1 hpos.all.2.2.1 (A6 hnd),(.cons h0 (.cons h1 (.cons h2 .nil))),hpos.all.2.2.2⟩
theorem EV{x0:Operand}{v0:AV}{x1:Operand}{v1:AV}{x2:Operand}{v2:AV}(h:Spec P f ([v0,v1,v2]) Sin λr' S'=>r'=r/\S'=Sout)(hT:TR r v news)(k:AOps ro P nt ops Q rest ⟨AE T dst v,AF S wS⟩)(h0:Rd none T x0 v0:=by rfl)(h1:Rd none T x1 v1:=by rfl)(h2:Rd none T x2 v2:=by rfl)(hpos:Pos S (Sin++Ac news) (Sout++news) rS wS:=by exact Pos.f)(hnd:BU (rS.map (·.1))=true:=by rfl)(ht:AS [(x0,v0),(x1,v1),(x2,v2)]=true:=by rfl)(hd:AD dst nt=true:=by rfl):AOps ro P nt ops Q (⟨dst,.call ⟨.value (.func f),#[x0,x1,x2],ats⟩,ty,pos,after,none⟩::rest) ⟨T,S⟩:=AOps.s (HH h0 h1 h2 h hT hpos hnd ht) hd k
theorem HS{x0:Operand}{v0:AV}{x1:Operand}{v1:AV}{x2:Operand}{v2:AV}{β:Type}{C:β->Prop}{rr vv:β->AV}{X p:Nat}{ob:AO}{oo:β->AO}(h:Spec P f [v0,v1,v2] [(X,ob)] λr' S'=>∃b,C b/\r'=rr b/\S'=[(X,oo b)])[hf:∀b,Frz (rr b) (vv b)](k:∀b,C b->AOps ro P nt ops Q rest ⟨AE T dst (vv b),AF S [(p,(X,oo b))]⟩)(hSp:At S p (X,ob):=by exact At.f)(h0:Rd none T x0 v0:=by rfl)(h1:Rd none T x1 v1:=by rfl)(h2:Rd none T x2 v2:=by rfl)(ht:AS [(x0,v0),(x1,v1),(x2,v2)]=true:=by rfl)(hd:AD dst nt=true:=by rfl):AOps ro P nt ops Q (⟨dst,.call ⟨.value (.func f),#[x0,x1,x2],ats⟩,ty,pos,after,none⟩::rest) ⟨T,S⟩:=Bx (xs:=[(x0,v0),(x1,v1),(x2,v2)]) (rS:=[(p,(X,ob))]) (nw:=λ_=>[]) (wE:=λb=>[(p,(X,oo b))]) h (λb=>.fz) (λ_=>rfl) (λ_=>.cons hSp .nil) (by simp) rfl (.cons hSp .nil) (.cons h0 (.cons h1 (.cons h2 .nil))) ht hd k
theorem HG{x0:Operand}{v0:AV}{x1:Operand}{v1:AV}{x2:Operand}{v2:AV}{x3:Operand}{v3:AV}{g:Option (Nat×Bool)}(h0:Rd c T x0 v0)(h1:Rd c T x1 v1)(h2:Rd c T x2 v2)(h3:Rd c T x3 v3)(h:Spec P f ([v0,v1,v2,v3]) Sin λr' S'=>r'=r/\S'=Sout)(hT:TR r v news)(hpos:Pos S (Sin++Ac news) (Sout++news) rS wS)(hnd:BU (rS.map (·.1))=true)(ht:AS [(x0,v0),(x1,v1),(x2,v2),(x3,v3)]=true):Stp c P ⟨dst,.call ⟨.value (.func f),#[x0,x1,x2,x3],ats⟩,ty,pos,after,g⟩ T S [(x0,v0),(x1,v1),(x2,v2),(x3,v3)] rS v wS:=⟨Br (xs:=[(x0,v0),(x1,v1),(x2,v2),(x3,v3)]) h ht hT hpos.all.1 hpos.all.2.1 hpos.all.2.2.1 (A6 hnd),(.cons h0 (.cons h1 (.cons h2 (.cons h3 .nil)))),hpos.all.2.2.2⟩
theorem EU{x0:Operand}{v0:AV}{x1:Operand}{v1:AV}{x2:Operand}{v2:AV}{x3:Operand}{v3:AV}(h:Spec P f ([v0,v1,v2,v3]) Sin λr' S'=>r'=r/\S'=Sout)(hT:TR r v news)(k:AOps ro P nt ops Q rest ⟨AE T dst v,AF S wS⟩)(h0:Rd none T x0 v0:=by rfl)(h1:Rd none T x1 v1:=by rfl)(h2:Rd none T x2 v2:=by rfl)(h3:Rd none T x3 v3:=by rfl)(hpos:Pos S (Sin++Ac news) (Sout++news) rS wS:=by exact Pos.f)(hnd:BU (rS.map (·.1))=true:=by rfl)(ht:AS [(x0,v0),(x1,v1),(x2,v2),(x3,v3)]=true:=by rfl)(hd:AD dst nt=true:=by rfl):AOps ro P nt ops Q (⟨dst,.call ⟨.value (.func f),#[x0,x1,x2,x3],ats⟩,ty,pos,after,none⟩::rest) ⟨T,S⟩:=AOps.s (HG h0 h1 h2 h3 h hT hpos hnd ht) hd k
theorem FD{x0:Operand}{v0:AV}{x1:Operand}{v1:AV}{x2:Operand}{v2:AV}{x3:Operand}{v3:AV}{β:Type}{C:β->Prop}{rr vv:β->AV}{X p:Nat}{ob:AO}{oo:β->AO}(h:Spec P f [v0,v1,v2,v3] [(X,ob)] λr' S'=>∃b,C b/\r'=rr b/\S'=[(X,oo b)])[hf:∀b,Frz (rr b) (vv b)](k:∀b,C b->AOps ro P nt ops Q rest ⟨AE T dst (vv b),AF S [(p,(X,oo b))]⟩)(hSp:At S p (X,ob):=by exact At.f)(h0:Rd none T x0 v0:=by rfl)(h1:Rd none T x1 v1:=by rfl)(h2:Rd none T x2 v2:=by rfl)(h3:Rd none T x3 v3:=by rfl)(ht:AS [(x0,v0),(x1,v1),(x2,v2),(x3,v3)]=true:=by rfl)(hd:AD dst nt=true:=by rfl):AOps ro P nt ops Q (⟨dst,.call ⟨.value (.func f),#[x0,x1,x2,x3],ats⟩,ty,pos,after,none⟩::rest) ⟨T,S⟩:=Bx (xs:=[(x0,v0),(x1,v1),(x2,v2),(x3,v3)]) (rS:=[(p,(X,ob))]) (nw:=λ_=>[]) (wE:=λb=>[(p,(X,oo b))]) h (λb=>.fz) (λ_=>rfl) (λ_=>.cons hSp .nil) (by simp) rfl (.cons hSp .nil) (.cons h0 (.cons h1 (.cons h2 (.cons h3 .nil)))) ht hd k
theorem HF{x0:Operand}{v0:AV}{x1:Operand}{v1:AV}{x2:Operand}{v2:AV}{x3:Operand}{v3:AV}{x4:Operand}{v4:AV}{g:Option (Nat×Bool)}(h0:Rd c T x0 v0)(h1:Rd c T x1 v1)(h2:Rd c T x2 v2)(h3:Rd c T x3 v3)(h4:Rd c T x4 v4)(h:Spec P f ([v0,v1,v2,v3,v4]) Sin λr' S'=>r'=r/\S'=Sout)(hT:TR r v news)(hpos:Pos S (Sin++Ac news) (Sout++news) rS wS)(hnd:BU (rS.map (·.1))=true)(ht:AS [(x0,v0),(x1,v1),(x2,v2),(x3,v3),(x4,v4)]=true):Stp c P ⟨dst,.call ⟨.value (.func f),#[x0,x1,x2,x3,x4],ats⟩,ty,pos,after,g⟩ T S [(x0,v0),(x1,v1),(x2,v2),(x3,v3),(x4,v4)] rS v wS:=⟨Br (xs:=[(x0,v0),(x1,v1),(x2,v2),(x3,v3),(x4,v4)]) h ht hT hpos.all.1 hpos.all.2.1 hpos.all.2.2.1 (A6 hnd),(.cons h0 (.cons h1 (.cons h2 (.cons h3 (.cons h4 .nil))))),hpos.all.2.2.2⟩
theorem Fs{x0:Operand}{v0:AV}{x1:Operand}{v1:AV}{x2:Operand}{v2:AV}{x3:Operand}{v3:AV}{x4:Operand}{v4:AV}(h:Spec P f ([v0,v1,v2,v3,v4]) Sin λr' S'=>r'=r/\S'=Sout)(hT:TR r v news)(k:AOps ro P nt ops Q rest ⟨AE T dst v,AF S wS⟩)(h0:Rd none T x0 v0:=by rfl)(h1:Rd none T x1 v1:=by rfl)(h2:Rd none T x2 v2:=by rfl)(h3:Rd none T x3 v3:=by rfl)(h4:Rd none T x4 v4:=by rfl)(hpos:Pos S (Sin++Ac news) (Sout++news) rS wS:=by exact Pos.f)(hnd:BU (rS.map (·.1))=true:=by rfl)(ht:AS [(x0,v0),(x1,v1),(x2,v2),(x3,v3),(x4,v4)]=true:=by rfl)(hd:AD dst nt=true:=by rfl):AOps ro P nt ops Q (⟨dst,.call ⟨.value (.func f),#[x0,x1,x2,x3,x4],ats⟩,ty,pos,after,none⟩::rest) ⟨T,S⟩:=AOps.s (HF h0 h1 h2 h3 h4 h hT hpos hnd ht) hd k
end
end
section
variable {ro:Option Nat}
section
variable {P:Program}{nt:Nat}{c:Code}{ops:Array Oper}{rest:List Oper}{Q:Exit->St->Prop}{T:List (Nat×AV)}{S:List AA}{p n X sz:Nat}{t:TypeId}{l:List AV}
end
end
section
variable {ro:Option Nat}
open Go.RowKit
section
variable {P:Program}{m0 m:Mem}{N:Nat}{R:Zs}{ex:List Nat}{X sz:Nat}{l:List AV}{t t' te ty:TypeId}{x y:Operand}{pos:String}{after:Array Edge}{g:Option (Nat×Bool)}{dst:Option Tmp}{p:Nat}
theorem Good.less{o o':AO}{bs bs':List Nat}(G:Good m0 m N (((X,o),bs)::R) ex)(h:ORel m X o' bs')(hs:bs'.Sublist bs):Good m0 m N (((X,o'),bs')::R) ex:=by
 have hso:(Zs.own (((X,o'),bs')::R)++ex).Sublist (Zs.own (((X,o),bs)::R)++ex):=by
  simp only[AT];exact(hs.append (.refl _)).append (.refl _)
 refine⟨λz hz=>?_,G.own.sublist hso,λb hb=>G.blk b (hso.subset hb),G.frz,G.keys,G.keyN,G.usedN,G.le,G.os,G.tape,G.output,G.size⟩;rcases List.mem_cons.1 hz with rfl|hz
 ·exact h
 ·exact G.obj z (List.mem_cons_of_mem _ hz)
theorem St.shrink{nt:Nat}{st:St}(n:Nat)(hS:At st.S p (X,.row t sz l)):DG nt st λst'=>st'=⟨st.T,st.S.set p (X,.row t sz (l.take n))⟩:=by
 rintro m0 a w ⟨m,N,Z,rfl,h2,h3,h4⟩;obtain⟨bs,hz⟩:=hS.z h2;obtain⟨R,hp1,hp2⟩:=Ab hz;have G:=h3.perm hp1;have hO:ORel m X (.row t sz l) bs:=G.obj _ (List.mem_cons_self ..);obtain⟨hU,L,hL,hLs,hO⟩:=hO
 obtain⟨bs',hs,ho⟩:∃bs',bs'.Sublist bs/\ORel m X (.row t sz (l.take n)) bs':=by
  rcases hO with⟨h1,rfl,rfl⟩|⟨h1,arr,b0,rfl,e1,e2,e3,e4,e5,e6⟩
  ·exact⟨[],.refl _,hU,L,hL,hLs,.inl ⟨h1,by simp,rfl⟩⟩
  ·obtain⟨p1,p2,e7,k1,k2⟩:=VCs.take e5 e6 (k:=min n l.length) (Nat.min_le_right _ _)
   have e8:l.take (min n l.length)=l.take n:=by rw[List.take_eq_take_iff];omega
   rw[e8]at k1;refine⟨L.blk::p1,by rw[e7];exact .cons_cons _ (List.sublist_append_left _ _),hU,L,hL,hLs,.inr ⟨h1,arr,p1,rfl,e1,e2,Nat.le_trans (by rw[List.length_take];exact Nat.min_le_right _ _) e3,e4,λe he=>e5 e (List.mem_of_mem_take he),?_⟩⟩;rw[List.take_take,Nat.min_eq_left (Nat.mul_le_mul_right _ (Nat.min_le_right _ _))]at k1;rw[List.length_take];exact k1
 exact⟨⟨st.T,st.S.set p (X,.row t sz (l.take n))⟩,⟨m,N,Z.set p ((X,.row t sz (l.take n)),bs'),rfl,by rw[List.map_set,h2],(G.less ho hs).perm (hp2 _).symm,h4⟩,rfl⟩
end
section
variable {P:Program}{nt:Nat}{c:Code}{ops:Array Oper}{rest:List Oper}{Q:Exit->St->Prop}{T:List (Nat×AV)}{S:List AA}{p n X sz off by_:Nat}{t te tx ty:TypeId}{l:List AV}{x y:Operand}{dst:Option Tmp}{pos:String}{after:Array Edge}{k:IntKind}{q:Int}{t':TypeId}
theorem AWP.shrink(n:Nat)(kk:AWP ro P nt c Q ⟨T,S.set p (X,.row t sz (l.take n))⟩)(hS:At S p (X,.row t sz l):=by exact At.f):AWP ro P nt c Q ⟨T,S⟩:=.ghost (St.shrink (st:=⟨T,S⟩) n hS) λst' e=>by subst e;exact kk
end
end
section
variable {ro:Option Nat}
section
variable {P:Program}{nt:Nat}{c d:Code}{Q:Exit->St->Prop}{T:List (Nat×AV)}{S:List AA}{p q n X Y sz sz2:Nat}{t t2:TypeId}{l l2 l2':List AV}{st:St}
end
theorem jn{β:Type}{R:β->Prop}{inv:β->St}{st:St}(b:β)(hR:R b)(h0:st.Le (inv b):=by exact⟨by exact Lk.f,by exact Sub.f⟩):Exit.normal=Exit.normal/\∃b,R b/\st.Le (inv b):=⟨rfl,b,hR,h0⟩
theorem AY{P:Program}{nt:Nat}{c d:Code}{Q Q2:Exit->St->Prop}{st:St}{β:Type}(R:β->Prop)(inv:β->St)(h1:AWP ro P nt c (λe st'=>e= .normal/\∃b,R b/\st'.Le (inv b)) st)(h2:∀b,R b->AWP ro P nt d Q (inv b)):AWP ro P nt c (andThen (AWP ro P nt d Q) Q2) st:=
 h1.mono λe st' ⟨he,b,hb,hle⟩=>by subst he;exact AWP.weak hle (h2 b hb)
end
section
variable {ro:Option Nat}
section
variable {P:Program}{nt:Nat}{c:Code}{ops:Array Oper}{rest:List Oper}{Q:Exit->St->Prop}{T:List (Nat×AV)}{S:List AA}{p q n X Y sz sz2:Nat}{t t2:TypeId}{l l2 l2':List AV}{st:St}
end
section
variable {P:Program}{dst:Option Tmp}{ty t ty2:TypeId}{pos:String}{after:Array Edge}{g:Option (Nat×Bool)}{T:List (Nat×AV)}{S:List AA}{c:Option (List Bool)}{x y:Operand}{i j:Int}
theorem AG(k:Int)(h:i-j=k)(hr: -9223372036854775808<=k/\k<=9223372036854775807)(hx:Rd c T x (.prim (.int .i64 i)))(hy:Rd c T y (.prim (.int .i64 j))):Stp c P ⟨dst,.binOp .sub t x y ty2,ty,pos,after,g⟩ T S [(x,.prim (.int .i64 i)),(y,.prim (.int .i64 j))] [] (.prim (.int .i64 k)) []:=h▸W.sub hx hy (h▸hr)
theorem AR(k:Int)(h:i+j=k)(hr: -9223372036854775808<=k/\k<=9223372036854775807)(hx:Rd c T x (.prim (.int .i64 i)))(hy:Rd c T y (.prim (.int .i64 j))):Stp c P ⟨dst,.binOp .add t x y ty2,ty,pos,after,g⟩ T S [(x,.prim (.int .i64 i)),(y,.prim (.int .i64 j))] [] (.prim (.int .i64 k)) []:=h▸W.add hx hy (h▸hr)
end
section
variable {P:Program}{dst:Option Tmp}{ty t ty2:TypeId}{pos:String}{after:Array Edge}{g:Option (Nat×Bool)}{T:List (Nat×AV)}{S:List AA}{c:Option (List Bool)}{x y:Operand}{a b:Bool}
end
end
section
section
variable {P:Program}{nt:Nat}{ops:Array Oper}{Q:Exit->St->Prop}{rest:List Oper}{T:List (Nat×AV)}{S:List AA}{op:Op}{ty:TypeId}{pos:String}{after:Array Edge}{dst:Option Tmp}{l:List Oper}{acc:List Eff}
end
end
section
section
variable {P:Program}{dst:Option Tmp}{ty t ty2:TypeId}{pos:String}{after:Array Edge}{g:Option (Nat×Bool)}{T:List (Nat×AV)}{S:List AA}{c:Option (List Bool)}{x y:Operand}
theorem OpT.shr{k k':IntKind}{i j:Int}{n:Nat}(hj:j=(n:Int))(hn:n<=k.bits):OpT P ⟨dst,.binOp .shr t x y ty2,ty,pos,after,g⟩ [(x,.prim (.int k i)),(y,.prim (.int k' j))] [] (.prim (.int k (i.fdiv (2^n)))) []:=
 AU rfl (λw=>by
  subst hj;have h:¬((n:Int)<0):=by omega
  simp[binOp,Op.shift,h,Sem.run_pure,Nat.min_eq_left hn]) (.inl ⟨by simp,by simp⟩)
end
end
section
open Go.RowKit
section
variable {m0 m:Mem}{N:Nat}{X sz:Nat}{t:TypeId}{l:List AV}{R:Zs}{ex:List Nat}
end
section
variable {P:Program}{dst:Option Tmp}{ty t te t2:TypeId}{pos:String}{after:Array Edge}{g:Option (Nat×Bool)}{x y:Operand}{p q r sz X Y Z:Nat}{l l2:List AV}
end
section
variable {ro:Option Nat}{P:Program}{nt p sz X:Nat}{t:TypeId}{l:List AV}
end
end
section
open Go.RowKit
section
variable {P:Program}{dst:Option Tmp}{ty t te tx:TypeId}{pos:String}{after:Array Edge}{g:Option (Nat×Bool)}{x y:Operand}{p q r sz X Y Z:Nat}{l:List AV}
end
end
section
open Go.RowKit
section
variable {P:Program}{dst:Option Tmp}{ty t te tx:TypeId}{pos:String}{after:Array Edge}{g:Option (Nat×Bool)}{x y:Operand}{p q r sz X Y Z V:Nat}{l l2:List AV}
end
section
variable {P:Program}{dst:Option Tmp}{ty t te tx ty2:TypeId}{pos:String}{after:Array Edge}{g:Option (Nat×Bool)}{x y:Operand}{p q r sz X Y Z V by_:Nat}{l l2:List AV}{T:List (Nat×AV)}{S:List AA}{c:Option (List Bool)}{k k' k0:IntKind}{qi qj:Int}
end
end
section
section
variable {P:Program}{dst:Option Tmp}{ty t ty2:TypeId}{pos:String}{after:Array Edge}{g:Option (Nat×Bool)}{T:List (Nat×AV)}{S:List AA}{c:Option (List Bool)}{x y:Operand}
end
end
section
open Go.RowKit
section
variable {P:Program}{m0 m:Mem}{N X Y:Nat}{R:Zs}{ex:List Nat}{t te ty t2:TypeId}{sz by_:Nat}{l ls:List AV}{dst:Option Tmp}{pos:String}{after:Array Edge}{g:Option (Nat×Bool)}{x y z u:Operand}{p q:Nat}
end
end
section
open Go.RowKit
section
variable {P:Program}{ro:Option Nat}{nt:Nat}{ops:Array Oper}{Q:Exit->St->Prop}{rest:List Oper}{T:List (Nat×AV)}{S:List AA}{ty t te t2 t' ty2:TypeId}{pos:String}{after:Array Edge}{dst:Option Tmp}{c:Option (List Bool)}{g:Option (Nat×Bool)}{x y z u:Operand}{X Y p q sz by_:Nat}{l ls:List AV}{cd:Code}
end
end
section
section
variable {ro:Option Nat}{P:Program}{nt:Nat}{ops:Array Oper}{Q:Exit->St->Prop}{rest:List Oper}{T:List (Nat×AV)}{S:List AA}{ty t te:TypeId}{sz:Nat}{x y:Operand}{pos:String}{after:Array Edge}{dst:Option Tmp}
end
end
section
theorem AW{P:Program}{res:List ResultVar}{Sf:List AA}{Q:AV->List AA->Prop}{st:St}(rs:List AV)(S':List AA)(e:Q (Fl rs) S')(h:ResVs P st res rs:=by(repeat (first|exact .nil|refine .cons (.tmp (by rfl)) (by rfl) ?_|refine .cons (.cell (by rfl) (by exact At.f) TAg.h TSize.h (by exact rfl) (by exact rfl)) (by rfl) ?_)))(hS:(S'++Sf).Sublist st.S:=by exact Sub.f):Ends P res Sf Q st:=⟨rs,rs,st.S,S',h,HM _ _,hS,e⟩
theorem EE{ro:Option Nat}{P:Program}{nt:Nat}{c d:Code}{Q Q2:Exit->St->Prop}{st:St}{β:Type}(R:β->Prop)(inv:β->St)(h1:AWP ro P nt c (andThen (λst'=>∃b,R b/\st'.Le (inv b)) Q2) st)(h2:∀b,R b->AWP ro P nt d Q (inv b)):AWP ro P nt c (andThen (AWP ro P nt d Q) Q2) st:=
 AWP.mono h1 λe st' h=>by
  cases e
  case normal=>obtain⟨b,hb,hl⟩:=h;exact AWP.weak hl (h2 b hb)
  all_goals exact h
theorem jnR{β:Type}{R:β->Prop}{inv:β->St}{st:St}(b:β)(hR:R b)(h0:st.Le (inv b):=by exact⟨by exact Lk.f,by exact Sub.f⟩):∃b,R b/\st.Le (inv b):=⟨b,hR,h0⟩
theorem GX{ro:Option Nat}{P:Program}{nt id:Nat}{c d:Code}{Q Q2:Exit->St->Prop}{st:St}{β:Type}(R:β->Prop)(inv:β->St)(h1:AWP ro P nt c (λe st'=>e= .normal/\∃b,R b/\st'.Le (inv b)) st)(h2:∀b,R b->AWP ro P nt d Q (inv b)):AWP ro P nt c (inB id (andThen (AWP ro P nt d Q) Q2)) st:=
 AWP.mono h1 λe st' ⟨he,b,hb,hl⟩=>by subst he;exact AWP.weak hl (h2 b hb)
section
variable {P:Program}{dst:Option Tmp}{ty t ty2:TypeId}{pos:String}{after:Array Edge}{g:Option (Nat×Bool)}{T:List (Nat×AV)}{S:List AA}{c:Option (List Bool)}{x y:Operand}{i j:Int}
theorem C8(k:Int)(h:i*j=k)(hr: -9223372036854775808<=k/\k<=9223372036854775807)(hx:Rd c T x (.prim (.int .i64 i)))(hy:Rd c T y (.prim (.int .i64 j))):Stp c P ⟨dst,.binOp .mul t x y ty2,ty,pos,after,g⟩ T S [(x,.prim (.int .i64 i)),(y,.prim (.int .i64 j))] [] (.prim (.int .i64 k)) []:=h▸W.mul hx hy (h▸hr)
theorem Dm(a b:Nat)(k:Nat)(hi:i=(a:Int))(hj:j=(b:Int))(h0:0<b)(h:a/b=k)(hr:a<=9223372036854775807)(hx:Rd c T x (.prim (.int .i64 i)))(hy:Rd c T y (.prim (.int .i64 j))):Stp c P ⟨dst,.binOp .quo t x y ty2,ty,pos,after,g⟩ T S [(x,.prim (.int .i64 i)),(y,.prim (.int .i64 j))] [] (.prim (.int .i64 (k:Int))) []:=by
 have h1:IntKind.i64.wrap (i.tdiv j)=(k:Int):=by
  subst hi hj h;rw[<-Int.ofNat_tdiv];have:=Nat.div_le_self a b;generalize a/b=q at this⊢;exact CH (by omega) (by omega)
 exact h1▸W.quoW hx hy (by omega)
end
end
section
abbrev uA(x:UInt64):AV:=.prim (.int .u64 ((x.toNat:Nat):Int))
section
variable {P:Program}{dst:Option Tmp}{ty t ty2:TypeId}{pos:String}{after:Array Edge}{g:Option (Nat×Bool)}{T:List (Nat×AV)}{S:List AA}{c:Option (List Bool)}{x y:Operand}{i j:Int}{k k':IntKind}{a b:UInt64}
theorem OpT.res{o:Oper}{xs:List (Operand×AV)}{rS wS:List (Nat×AA)}{r r':Int}(h:OpT P o xs rS (.prim (.int k r)) wS)(e:r=r'):OpT P o xs rS (.prim (.int k r')) wS:=e▸h
theorem Cw(a:UInt64):a.toNat<18446744073709551616:=a.toNat_lt
theorem ED{bop:BinOp}(hb:bop= .and\/bop= .or\/bop= .xor):OpT P ⟨dst,.binOp bop t x y ty2,ty,pos,after,g⟩ [(x,.prim (.int k i)),(y,.prim (.int k j))] [] (.prim (.int k (bits bop k i j))) []:=
 AU rfl (λw=>by
  rcases hb with rfl|rfl|rfl
  ·rw[binOp_and,intBits_and];rfl
  ·rw[binOp_or,intBits_or];rfl
  ·rw[binOp_xor,intBits_xor];rfl) (.inl (by rcases hb with rfl|rfl|rfl<;>exact⟨by simp,by simp⟩))
theorem H7(hx:Rd c T x (uA a))(hy:Rd c T y (uA b)):Stp c P ⟨dst,.binOp .and t x y ty2,ty,pos,after,g⟩ T S [(x,uA a),(y,uA b)] [] (uA (a&&&b)) []:=by
 have h:=u64_and_nat a.toNat b.toNat (Cw a) (Cw b);rw[<-UInt64.toNat_and]at h;exact⟨.res (ED (.inl rfl)) h,.cons hx (.cons hy .nil),.nil⟩
theorem C7(hx:Rd c T x (uA a))(hy:Rd c T y (uA b)):Stp c P ⟨dst,.binOp .xor t x y ty2,ty,pos,after,g⟩ T S [(x,uA a),(y,uA b)] [] (uA (a^^^b)) []:=by
 have h:=u64_xor_nat a.toNat b.toNat (Cw a) (Cw b);rw[<-UInt64.toNat_xor]at h;exact⟨.res (ED (.inr (.inr rfl))) h,.cons hx (.cons hy .nil),.nil⟩
theorem Gc(n:Int):IntKind.u64.wrap n=n%18446744073709551616:=IntKind.wrap_u64 n
theorem H5(hx:Rd c T x (uA a))(hy:Rd c T y (uA b)):Stp c P ⟨dst,.binOp .sub t x y ty2,ty,pos,after,g⟩ T S [(x,uA a),(y,uA b)] [] (uA (a-b)) []:=by
 have h:IntKind.u64.wrap ((a.toNat:Int)-b.toNat)=(((a-b).toNat:Nat):Int):=by
  have h1:=Cw a;have h2:=Cw b;rw[Gc,UInt64.toNat_sub];omega
 exact⟨.res (Bh) h,.cons hx (.cons hy .nil),.nil⟩
theorem Dl(n:Nat)(hn:n<64)(hx:Rd c T x (uA a))(hy:Rd c T y (.prim (.int k' j)))(hj:j=(n:Int)):Stp c P ⟨dst,.binOp .shl t x y ty2,ty,pos,after,g⟩ T S [(x,uA a),(y,.prim (.int k' j))] [] (uA (a<<<UInt64.ofNat n)) []:=by
 have h:IntKind.u64.wrap ((a.toNat:Int)*2^n)=(((a<<<UInt64.ofNat n).toNat:Nat):Int):=by
  rw[Gc,UInt64.toNat_shiftLeft,UInt64.toNat_ofNat',show n%2^64%64=n by omega,Nat.shiftLeft_eq,Int.natCast_emod,Int.natCast_mul,Int.natCast_pow];rfl
 exact⟨.res (OpT.shl hj (by show n<=64;omega)) h,.cons hx (.cons hy .nil),.nil⟩
theorem Fa(n:Nat)(hn:n<64)(hx:Rd c T x (uA a))(hy:Rd c T y (.prim (.int k' j)))(hj:j=(n:Int)):Stp c P ⟨dst,.binOp .shr t x y ty2,ty,pos,after,g⟩ T S [(x,uA a),(y,.prim (.int k' j))] [] (uA (a>>>UInt64.ofNat n)) []:=by
 have h:(a.toNat:Int).fdiv (2^n)=(((a>>>UInt64.ofNat n).toNat:Nat):Int):=by
  rw[UInt64.toNat_shiftRight,UInt64.toNat_ofNat',show n%2^64%64=n by omega,Nat.shiftRight_eq_div_pow,Int.fdiv_eq_ediv_of_nonneg _ (Int.pow_nonneg (by decide)),Int.natCast_ediv,Int.natCast_pow];rfl
 exact⟨.res (OpT.shr hj (by show n<=64;omega)) h,.cons hx (.cons hy .nil),.nil⟩
theorem OpT.convW{t2:TypeId}{k0:IntKind}(h1:P.underlying t=some (.int k0))(h2:P.underlying t2=some (.int k')):OpT P ⟨dst,.convert t t2 x,ty,pos,after,g⟩ [(x,.prim (.int k i))] [] (.prim (.int k' (k'.wrap i))) []:=
 .pure_ λm a hx _=>by
  have e1:=(hx (x,.prim (.int k i)) (by simp)).prim;refine⟨.int k' (k'.wrap i),?_,AQ _ rfl⟩;simp only at e1;simp[execOp,e1,convert,run_underlying h1,run_underlying h2,Conv.intToInt,Sem.run_bind,Sem.run_pure,Result.andThen_ok]
theorem W.convW{t2:TypeId}(k0 k':IntKind)(r:Int)(h1:P.underlying t=some (.int k0))(h2:P.underlying t2=some (.int k'))(hw:k'.wrap i=r)(hx:Rd c T x (.prim (.int k i))):Stp c P ⟨dst,.convert t t2 x,ty,pos,after,g⟩ T S [(x,.prim (.int k i))] [] (.prim (.int k' r)) []:=⟨.res (OpT.convW h1 h2) hw,.cons hx .nil,.nil⟩
theorem FZ{t2:TypeId}(k0:IntKind)(n:Nat)(hi:i=(n:Int))(hn:n<18446744073709551616)(h1:P.underlying t=some (.int k0))(h2:P.underlying t2=some (.int .u64))(hx:Rd c T x (.prim (.int k i))):Stp c P ⟨dst,.convert t t2 x,ty,pos,after,g⟩ T S [(x,.prim (.int k i))] [] (uA (UInt64.ofNat n)) []:=by
 refine W.convW k0 .u64 _ h1 h2 ?_ hx;rw[Gc,UInt64.toNat_ofNat',Nat.mod_eq_of_lt (by omega)];omega
theorem H6{t2:TypeId}(k0:IntKind)(hn:a.toNat<9223372036854775808)(h1:P.underlying t=some (.int k0))(h2:P.underlying t2=some (.int .i64))(hx:Rd c T x (uA a)):Stp c P ⟨dst,.convert t t2 x,ty,pos,after,g⟩ T S [(x,uA a)] [] (.prim (.int .i64 ((a.toNat:Nat):Int))) []:=
 W.convW k0 .i64 _ h1 h2 (CH (by omega) (by omega)) hx
end
end
section
open Go.RowKit Go.Maps Go.WideElems Go.WideMaps Go.ChangeMaps
def C2:Value->Lit
 |.int q a=>.int q a
 |.bool b=>.bool b
 |.pointer none=>.int .i64 (-1)
 |.pointer (some a)=>.int .i64 a.block
 |_=>.bool false
def Am(P:Program)(e:TypeId)(v:Value):Option (DataW Unit×List MemPlace):=
 match P.underlying e,v with
 |some (.pointer _),.pointer none=>some (.lit (.int .i64 (-1)),[])
 |some (.pointer _),.pointer (some ⟨b,0,none⟩)=>some (.lit (.int .i64 b),[])
 |some (.pointer _),_=>none
 |_,_=>plainElem (H:=Unit) P e v
def PlainV(P:Program)(e:TypeId)(v:Value):Prop:=Am P e v=some (.lit (C2 v),[])
theorem PlainV.int{P:Program}{e:TypeId}{q:IntKind}(he:P.underlying e=some (.int q)){a:Int}(hw:(Lit.int q a).wf=true):PlainV P e (.int q a):=by
 unfold PlainV Am;rw[he];exact plainElem_int he hw
def MapC(P:Program)(e:TypeId)(g:Int->Option Value)(s:Nat)(D:DataW Unit):Prop:=
 s=Maps.size D/\∀x,(Lit.int .i64 x).wf=true->Maps.has D (.int .i64 x)=(g x).isSome/\∀v,g x=some v->PlainV P e v/\∀z,D.atKey (.int .i64 x) z= .lit (C2 v)
def MapF(P:Program)(k e:TypeId)(g:Int->Option Value)(s:Nat)(o:Obj):Prop:=
 ∃es clock D,o= .map es clock/\Fit P k (Am P e) es clock/\es.size<=s/\D= .map ((es.toList.map (rg P k (Am P e))).foldr DataW.insert [])/\MapC P e g s D
theorem MapF.own{P:Program}{k e:TypeId}{g:Int->Option Value}{s b:Nat}{o:Obj}{w:World}(h:MapF P k e g s o)(hb:w.heap[b]?=some o):∃D,w.ownsMap P k (Am P e) b s D/\MapC P e g s D:=by
 obtain⟨es,clock,D,rfl,h1,h2,h3,h4⟩:=h;exact⟨D,⟨es,clock,hb,h1,h2,h3⟩,h4⟩
theorem MapC.of{P:Program}{k e:TypeId}{g:Int->Option Value}{s n b:Nat}{D:DataW Unit}{w:World}(h:w.ownsMap P k (Am P e) b n D)(hc:MapC P e g s D):∃o,w.heap[b]?=some o/\MapF P k e g s o:=by
 obtain⟨es,clock,hb,h1,h2,h3⟩:=h;refine⟨_,hb,es,clock,D,rfl,h1,?_,h3,hc⟩;rw[hc.1,h3];have e1:Maps.size (DataW.map ((es.toList.map (rg P k (Am P e))).foldr DataW.insert []))=es.size:=by simp[Maps.size,length_sorted]
 rw[e1];exact Nat.le_refl _
def B1(g:Int->Option Value)(x:Int)(v:Value):Int->Option Value:=λy=>if y=x then some v else g y
def EO(g:Int->Option Value)(x:Int):Int->Option Value:=λy=>if y=x then none else g y
theorem CJ{x y:Int}(h:¬y=x):(Lit.int .i64 y)≠Lit.int .i64 x:=λe=>h (by injection e)
theorem MapC.put{P:Program}{e:TypeId}{g:Int->Option Value}{s:Nat}{D:DataW Unit}(hT:Maps.Tidy D)(h:MapC P e g s D){x:Int}{v:Value}(hk:WideAt.IsKeyLit (.int .i64 x))(hw:(Lit.int .i64 x).wf=true)(hv:PlainV P e v):
  MapC P e (B1 g x v) (if(g x).isSome then s else s+1) (D.put (.int .i64 x) (.lit (C2 v))):=by
 obtain⟨h1,h2⟩:=h;refine⟨?_,λy hy=>?_⟩
 ·rw[size_put hT,(h2 x hw).1,h1]
 ·by_cases e:y=x
  ·subst e
   refine⟨by rw[has_put_same hT.isMap hk];simp[B1],λu hu=>?_⟩;simp only[B1,if_true,Option.some.injEq]at hu;subst hu;exact⟨hv,λz=>atKey_put_same hT.isMap hk _ _⟩
  ·refine⟨by rw[has_put_other (CJ e),(h2 y hy).1];simp[B1,e],λu hu=>?_⟩
   simp only[B1,if_neg e]at hu;exact⟨((h2 y hy).2 u hu).1,λz=>by rw[atKey_put_other (CJ e)];exact((h2 y hy).2 u hu).2 z⟩
theorem MapC.del{P:Program}{e:TypeId}{g:Int->Option Value}{s:Nat}{D:DataW Unit}(hT:Maps.Tidy D)(h:MapC P e g s D){x:Int}(hw:(Lit.int .i64 x).wf=true):
  MapC P e (EO g x) (if(g x).isSome then s-1 else s) (D.del (.int .i64 x)):=by
 obtain⟨h1,h2⟩:=h;refine⟨?_,λy hy=>?_⟩
 ·have:=size_del (k:=.int .i64 x) hT
  rw[(h2 x hw).1,<-h1]at this;split<;>rename_i hs<;>simp[hs]at this<;>omega
 ·by_cases e:y=x
  ·subst e
   refine⟨by rw[has_del_same];simp[EO],λu hu=>?_⟩;simp[EO]at hu
  ·refine⟨by rw[has_del_other (CJ e),(h2 y hy).1];simp[EO,e],λu hu=>?_⟩
   simp only[EO,if_neg e]at hu;exact⟨((h2 y hy).2 u hu).1,λz=>by rw[atKey_del_other (CJ e)];exact((h2 y hy).2 u hu).2 z⟩
section
variable {P:Program}{m0 m:Mem}{N X:Nat}{R:Zs}{ex:List Nat}
theorem DK{w:World}{b:Nat}{o0:Obj}(h:w.heap[b]?=some o0)(o:Obj):(setBlock w b o).heap[b]?=some o:=by
 have hlt:b<w.heap.size:=(Array.getElem?_eq_some_iff.1 h).1;simp[setBlock,hlt]
theorem Ek{w:World}{b c:Nat}(o:Obj)(h:c≠b):(setBlock w b o).heap[c]?=w.heap[c]?:=by
 simp only[setBlock];exact Array.getElem?_setIfInBounds_ne (λe=>h e.symm)
theorem Ct{bs0:List Nat}{K:Obj->Prop}(G:Good m0 m N (((X,.gone),bs0)::R) ex)(o:Obj)(hK:K o)(m':Mem)
  (hm':m'=⟨λy=>if y=X then some ⟨m.w.heap.size,0,0,false⟩else m.μ y,λy=>m.U y\/y=X,m.w.alloc o,m.F⟩):
  Good m0 m' N (((X,.ob K),[m.w.heap.size])::R) ex/\m.Le m':=by
 subst hm';obtain⟨rfl,hU⟩:=G.obj _ (List.mem_cons_self ..);have hXN:=G.keyN X (by simp[C3])
 have hle:m.Le ⟨λy=>if y=X then some ⟨m.w.heap.size,0,0,false⟩else m.μ y,λy=>m.U y\/y=X,m.w.alloc o,m.F⟩:=by
  refine⟨λy h=>.inl h,λy L hy hL=>?_,λb hb=>⟨hb,Below.heap_alloc _ _ _ (G.frz b hb)⟩⟩;simp only at hL;split at hL
  ·rename_i e;subst e;exact absurd hy hU
  ·exact hL
 refine⟨?_,hle⟩;have ownex:=G.own;rw[AT,List.nil_append]at ownex;refine Good.swap (zs:=[((X,.gone),[])]) (zs':=[((X,.ob K),[m.w.heap.size])]) G hle (Nat.le_refl _) ?_ ?_ ?_ ?_ ?_ ?_ ?_ ?_ ?_ rfl rfl rfl (by simp)
 ·intro y hy _
  have hne:y≠X:=by intro e;apply hy;simp[Zs.keys,e]
  simp[hne]
 ·intro b hb _ _
  exact Below.heap_alloc _ _ _ hb
 ·intro z hz
  simp only[List.mem_singleton]at hz;subst hz;exact⟨.inr rfl,⟨m.w.heap.size,0,0,false⟩,by simp,rfl,o,heap_alloc_new m.w _,hK⟩
 ·rw[Bu]
  refine List.nodup_append.2 ⟨by simp,(List.nodup_append.1 ownex).2.1,λb hb c hc e=>?_⟩;simp only[List.mem_singleton]at hb;have:=(G.blk c (by simp[hc])).1;omega
 ·intro b hb
  rw[Bu]at hb⊢;rcases List.mem_append.1 hb with hb|hb
  ·simp only[List.mem_singleton]at hb
   subst hb;exact⟨by simp,λhF=>Nat.lt_irrefl _ (G.frz _ hF),.inr (.inr (Nat.le_refl _))⟩
  ·have:=G.blk b (by simp[hb])
   exact⟨by have:=this.1;simp;omega,this.2,.inr (.inl hb)⟩
 ·intro b hb
  exact⟨by have:=G.frz b hb;simp;omega,.inl hb⟩
 ·simp[Zs.keys]
 ·intro y hy
  simp[Zs.keys]at hy⊢;subst hy;exact⟨hXN,.inl rfl⟩
 ·intro y hy
  simp[Zs.keys];rcases hy with hy|rfl
  ·exact⟨G.usedN y hy,.inl hy⟩
  ·exact⟨hXN,.inr (.inl rfl)⟩
theorem Ci{K K':Obj->Prop}{bs:List Nat}{L:Loc}(G:Good m0 m N (((X,.ob K),bs)::R) ex)(hL:m.μ X=some L)(hbs:bs=[L.blk])(o':Obj)(hK:K' o')(m':Mem)(hm':m'={m with w:=setBlock m.w L.blk o'}):
  Good m0 m' N (((X,.ob K'),bs)::R) ex/\m.Le m':=by
 subst hm' hbs;obtain⟨hU,L',hL',hbs',o,hb,hKo⟩:=G.obj _ (List.mem_cons_self ..);have hbk:=G.blk L.blk (by simp[Zs.own]);obtain⟨o0,ho0⟩:∃o0,m.w.heap[L.blk]?=some o0:=⟨_,Array.getElem?_eq_getElem hbk.1⟩;have hle:m.Le {m with w:=setBlock m.w L.blk o'}:=⟨λy h=>h,λ_ _ _ h=>h,λc hc=>⟨hc,Ek _ (λe=>by subst e;exact hbk.2 hc)⟩⟩;have own:=G.own;have hsz:(setBlock m.w L.blk o').heap.size=m.w.heap.size:=by simp[setBlock]
 refine⟨Good.swap (zs:=[((X,.ob K),[L.blk])]) (zs':=[((X,.ob K'),[L.blk])]) (R:=R) (ex:=ex) (ex':=ex) G hle (by omega) (λy _ _=>rfl) (λc _ hc _=>Ek _ (λe=>by subst e;simp[Zs.own]at hc)) ?_ ?_ ?_ ?_ (by simp[Zs.keys]) ?_ ?_ rfl rfl rfl (Nat.le_of_eq hsz.symm),hle⟩
 ·intro z hz
  simp only[List.mem_singleton]at hz;subst hz;exact⟨hU,L,hL,rfl,o',DK ho0 _,hK⟩
 ·have hp:(Zs.own (((X,AO.ob K),[L.blk])::R)++ex).Perm (R.own++([L.blk]++ex)):=by
   rw[AT,List.append_assoc];refine List.perm_append_comm.trans ?_;rw[List.append_assoc];exact List.Perm.append_left _ List.perm_append_comm
  have:=(List.nodup_append.1 (hp.nodup_iff.1 own)).2.1;simpa[Zs.own]using this
 ·intro c hc
  simp only[Zs.own,List.flatMap_cons,List.flatMap_nil,List.append_nil,List.mem_append,List.mem_singleton]at hc;have hk:=G.blk c (by simp only[AT,List.mem_append,List.mem_singleton];rcases hc with h|h<;>simp[h]);exact⟨by show c<(setBlock m.w L.blk o').heap.size;rw[hsz];exact hk.1,hk.2,by rcases hc with h|h<;>simp[Zs.own,h]⟩
 ·intro c hc
  exact⟨by show c<(setBlock m.w L.blk o').heap.size;rw[hsz];exact G.frz c hc,.inl hc⟩
 ·intro y hy
  simp only[Zs.keys,List.map_cons,List.map_nil,List.mem_singleton]at hy⊢;subst hy;exact⟨G.keyN y (by simp[Zs.keys]),.inl rfl⟩
 ·intro y hy
  exact⟨G.usedN y hy,.inl hy⟩
variable {o:Oper}{v:AV}{x y z:Operand}{ty ty2 t k e:TypeId}{pos:String}{after:Array Edge}{g:Option (Nat×Bool)}{dst:Option Tmp}{p:Nat}{gf:Int->Option Value}{s:Nat}
theorem Gw(w:World)(P:Program)(k e:TypeId):MapF P k e (λ_=>none) 0 (.map #[] 0):=by
 obtain⟨es,clock,hb,h1,h2,h3⟩:=World.ownsMap_made (H:=Unit) w P k (Am P e);rw[heap_alloc_new]at hb;obtain⟨rfl,rfl⟩:=Obj.map.inj (Option.some.inj hb);exact⟨#[],0,_,rfl,h1,h2,h3,rfl,λx _=>⟨rfl,λv hv=>by cases hv⟩⟩
theorem OpT.makeMap(ht:P.underlying t=some (.map k e)):OpT P ⟨dst,.makeMap t none,ty,pos,after,g⟩ [] [(p,(X,.gone))] (.mp X) [(p,(X,.ob (MapF P k e (λ_=>none) 0)))]:=by
 intro nt m0 T S a w hx hS hd hr;obtain⟨m,N,Z,rfl,h2,h3,h4⟩:=hr;have h2':Z.map (·.1)=S:=h2;have hSp:=hS (p,(X,.gone)) (by simp);rw[<-h2',List.getElem?_map]at hSp;cases hz:Z[p]? with
 |none=>rw[hz]at hSp;cases hSp
 |some z=>
  rw[hz]at hSp;simp only[Option.map_some,Option.some.injEq]at hSp;obtain⟨z1,z2⟩:=z;simp only at hSp;subst hSp;obtain⟨R,hp1,hp2⟩:=Ab hz;obtain⟨G',hle⟩:=Ct (h3.perm hp1) (.map #[] 0) (Gw m.w P k e) _ rfl;unfold Oper.wp
  have h5:(execOp a.eval ⟨dst,.makeMap t none,ty,pos,after,g⟩).run P m.w= .ok (.value (.map (some m.w.heap.size))) (m.w.alloc (.map #[] 0)):=by
   simp[execOp,run_makeMap,Sem.run_bind,Result.andThen_ok,Sem.run_pure]
  rw[h5];refine⟨_,N,Z.set p ((X,.ob _),[m.w.heap.size]),rfl,?_,G'.perm (hp2 _).symm,(h4.mono hle).put hd ?_⟩
  ·rw[List.map_set,h2'];rfl
  ·refine⟨rfl,.inr rfl,_,rfl,λL hL=>?_⟩
   simp only[if_true,Option.some.injEq]at hL;subst hL;rfl
theorem BV{n:Int}(hn: -9223372036854775808<=n/\n<=9223372036854775807):(Lit.int .i64 n).wf=true:=by
 have h1:IntKind.i64.min= -9223372036854775808:=by decide
 have h2:IntKind.i64.max=9223372036854775807:=by decide
 simp[Lit.wf,h1,h2,hn.1,hn.2]
theorem OpT.mapUpd{n:Int}{u:Value}(ht:P.underlying t=some (.map k e))(hk:P.underlying k=some (.int .i64))(hn: -9223372036854775808<=n/\n<=9223372036854775807)(hu:PlainV P e u)(hs:s<maxLen):OpT P ⟨dst,.mapUpdate t x y z,ty,pos,after,g⟩ [(x,.mp X),(y,.prim (.int .i64 n)),(z,.prim u)] [(p,(X,.ob (MapF P k e gf s)))] .dead [(p,(X,.ob (MapF P k e (B1 gf n u) (if(gf n).isSome then s else s+1))))]:=by
 intro nt m0 T S a w hx hS hd hr;obtain⟨m,N,Z,rfl,h2,h3,h4⟩:=hr;have h2':Z.map (·.1)=S:=h2;have hxa:VV m (.mp X) (a.eval x) []:=h4.ev (hx (x,.mp X) (by simp));have hya:=(h4.ev (hx (y,.prim (.int .i64 n)) (by simp))).prim;have hza:=(h4.ev (hx (z,.prim u) (by simp))).prim;have hSp:=hS (p,(X,.ob (MapF P k e gf s))) (by simp);rw[<-h2',List.getElem?_map]at hSp;cases hz:Z[p]? with
 |none=>rw[hz]at hSp;cases hSp
 |some z1=>
  rw[hz]at hSp;simp only[Option.map_some,Option.some.injEq]at hSp;obtain⟨z1,bs⟩:=z1;simp only at hSp;subst hSp;obtain⟨R,hp1,hp2⟩:=Ab hz;have G:=h3.perm hp1;obtain⟨hU,L,hL,hbs,o,hb,hKo⟩:=G.obj _ (List.mem_cons_self ..);obtain⟨_,_,A,hA,hA2⟩:=hxa;simp only[List.cons.injEq,and_true]at hA;rw[hA2 L hL]at hA;obtain⟨D,hown,hC⟩:=hKo.own hb;have K:=int_keyed (P:=P) hk;have hwf:(Lit.int .i64 n).wf=true:=BV hn;have hkey:=keyOf_int_mk hk hwf;obtain⟨w',hrun,hown',hturn⟩:=hown.store K ht hs hkey hu;obtain⟨es,clock,es',clock',hb0,rfl⟩:=hturn;obtain⟨o',ho',hF'⟩:=MapC.of hown' (hC.put (hown.tidy K) (K.key hkey) hwf hu);rw[DK hb0]at ho';obtain rfl:=Option.some.inj ho';obtain⟨G',hle⟩:=Ci G hL hbs _ hF' _ rfl;unfold Oper.wp
  have h5:(execOp a.eval ⟨dst,.mapUpdate t x y z,ty,pos,after,g⟩).run P m.w= .ok .skip (setBlock m.w L.blk (.map es' clock')):=by
   simp[execOp,hA,hya,hza,hrun,Sem.run_bind,Result.andThen_ok,Sem.run_pure]
  rw[h5];refine⟨_,N,Z.set p ((X,.ob _),bs),rfl,?_,G'.perm (hp2 _).symm,(h4.mono hle).put hd ?_⟩
  ·rw[List.map_set,h2'];rfl
  ·exact rfl
theorem Gt{m:Mem}{x0:Operand}{a:Act}(hx:VV m (.mp X) (a.eval x0) []){bs:List Nat}(hO:ORel m X (.ob (MapF P k e gf s)) bs):∃b D,a.eval x0= .map (some b)/\m.w.ownsMap P k (Am P e) b s D/\MapC P e gf s D:=by
 obtain⟨hU,L,hL,hbs,o,hb,hKo⟩:=hO;obtain⟨_,_,A,hA,hA2⟩:=hx;simp only[List.cons.injEq,and_true]at hA;rw[hA2 L hL]at hA;obtain⟨D,hown,hC⟩:=hKo.own hb;exact⟨L.blk,D,hA,hown,hC⟩
theorem Ey{v:Value}(hp:∀te,P.underlying e≠some (.pointer te)):Am P e v=plainElem (H:=Unit) P e v:=by
 unfold Am;split
 ·exact absurd ‹_› (hp _)
 ·exact absurd ‹_› (hp _)
 ·exact absurd ‹_› (hp _)
 ·rfl
theorem BF{v:Value}{u:Value}{ps:List MemPlace}(h:Am P e v=some (.lit (C2 u),ps))(hu:PlainV P e u):v=u:=by
 unfold PlainV at hu;by_cases hp:∃te,P.underlying e=some (.pointer te)
 ·obtain⟨te,hp⟩:=hp
  unfold Am at h hu;rw[hp]at h hu;split at hu
  ·split at h
   ·rfl
   ·simp only[C2,Option.some.injEq,Prod.mk.injEq,DataW.lit.injEq,Lit.int.injEq]at h
    omega
   ·cases h
   ·simp_all
  ·split at h
   ·simp only[C2,Option.some.injEq,Prod.mk.injEq,DataW.lit.injEq,Lit.int.injEq]at h
    omega
   ·simp only[C2,Option.some.injEq,Prod.mk.injEq,DataW.lit.injEq,Lit.int.injEq]at h
    obtain⟨⟨_,h⟩,_⟩:=h;have h:_=_:=Int.ofNat.inj h;subst h;rfl
   ·cases h
   ·simp_all
  ·cases hu
  ·simp_all
 ·have hp':∀te,P.underlying e≠some (.pointer te):=λte e=>hp ⟨te,e⟩
  rw[Ey hp']at h hu;unfold plainElem at h hu;generalize P.underlying e=d at h hu;split at hu
  ·split at h
   ·simp only[C2,Option.some.injEq,Prod.mk.injEq,DataW.lit.injEq,Lit.bool.injEq]at h
    rw[h.1]
   ·simp_all
   ·simp_all
   ·cases h
  ·split at h
   ·simp_all
   ·split at h
    ·split at hu
     ·rename_i h1 h2
      simp only[C2,Option.some.injEq,Prod.mk.injEq,DataW.lit.injEq,Lit.int.injEq]at h
      simp_all
     ·cases hu
    ·cases h
   ·simp_all
   ·cases h
  ·split at hu
   ·simp[C2]at hu
   ·cases hu
  ·cases hu
theorem OpT.lookup1{n:Int}{z0:Value}(ht:P.underlying t=some (.map k e))(hk:P.underlying k=some (.int .i64))(hz:∀w,(zeroValue e).run P w= .ok z0 w)(h0:PlainV P e z0)(hn: -9223372036854775808<=n/\n<=9223372036854775807)(hone:((gf n).getD z0).oneCell'=true):
  OpT P ⟨dst,.lookup t x y false,ty,pos,after,g⟩ [(x,.mp X),(y,.prim (.int .i64 n))] [(p,(X,.ob (MapF P k e gf s)))] (.prim ((gf n).getD z0)) []:=
 .pure_ λm a hx hS=>by
  obtain⟨bs,hO⟩:=hS (p,(X,.ob (MapF P k e gf s))) (by simp);obtain⟨b,D,hA,hown,hC⟩:=Gt (hx (x,.mp X) (by simp)) hO;have hya:=(hx (y,.prim (.int .i64 n)) (by simp)).prim;have K:=int_keyed (P:=P) hk;have hwf:=BV hn;have hkey:=keyOf_int_mk hk hwf;obtain⟨v,ps,hrun,hv⟩:=hown.lookup K ht (hz m.w) h0 hkey
  have hval:v=(gf n).getD z0:=by
   obtain⟨h1,h2⟩:=hC.2 n hwf;cases hg:gf n with
   |none=>
    rw[hg]at h1;rw[atKey_of_not_has (by simpa using h1)]at hv;exact BF hv h0
   |some u=>
    obtain⟨h3,h4⟩:=h2 u hg;rw[h4]at hv;exact BF hv h3
  subst hval;exact⟨_,by simp only at hya hA;simp[execOp,hA,hya,hrun,Sem.run_bind,Result.andThen_ok,Sem.run_pure],AQ _ hone⟩
theorem OpT.lookup2{n:Int}{z0:Value}(ht:P.underlying t=some (.map k e))(hk:P.underlying k=some (.int .i64))(hz:∀w,(zeroValue e).run P w= .ok z0 w)(h0:PlainV P e z0)(hn: -9223372036854775808<=n/\n<=9223372036854775807)(hone:((gf n).getD z0).oneCell'=true):
  OpT P ⟨dst,.lookup t x y true,ty,pos,after,g⟩ [(x,.mp X),(y,.prim (.int .i64 n))] [(p,(X,.ob (MapF P k e gf s)))] (.tup [.prim ((gf n).getD z0),.prim (.bool (gf n).isSome)]) []:=
 .pure_ λm a hx hS=>by
  obtain⟨bs,hO⟩:=hS (p,(X,.ob (MapF P k e gf s))) (by simp);obtain⟨b,D,hA,hown,hC⟩:=Gt (hx (x,.mp X) (by simp)) hO;have hya:=(hx (y,.prim (.int .i64 n)) (by simp)).prim;have K:=int_keyed (P:=P) hk;have hwf:=BV hn;have hkey:=keyOf_int_mk hk hwf;obtain⟨v,ps,hrun,hv⟩:=hown.look_ok K ht (hz m.w) h0 hkey;obtain⟨h1,h2⟩:=hC.2 n hwf
  have hval:v=(gf n).getD z0:=by
   cases hg:gf n with
   |none=>
    rw[hg]at h1;rw[atKey_of_not_has (by simpa using h1)]at hv;exact BF hv h0
   |some u=>
    obtain⟨h3,h4⟩:=h2 u hg;rw[h4]at hv;exact BF hv h3
  subst hval;rw[h1]at hrun;exact⟨_,by simp only at hya hA;simp[execOp,hA,hya,hrun,Sem.run_bind,Result.andThen_ok,Sem.run_pure],⟨_,rfl,(AK rfl).2 ⟨_,_,[],[],rfl,rfl,AQ _ hone,(AK rfl).2 ⟨_,_,[],[],rfl,rfl,AQ _,⟨rfl,rfl⟩⟩⟩⟩⟩
theorem OpT.mapDel{ats:Array TypeId}{n:Int}(ht:P.underlying t=some (.map k e))(hk:P.underlying k=some (.int .i64))(hn: -9223372036854775808<=n/\n<=9223372036854775807):OpT P ⟨dst,.call ⟨.builtin .delete,#[x,y],#[t,k]⟩,ty,pos,after,g⟩ [(x,.mp X),(y,.prim (.int .i64 n))] [(p,(X,.ob (MapF P k e gf s)))] .dead [(p,(X,.ob (MapF P k e (EO gf n) (if(gf n).isSome then s-1 else s))))]:=by
 intro nt m0 T S a w hx hS hd hr;obtain⟨m,N,Z,rfl,h2,h3,h4⟩:=hr;have h2':Z.map (·.1)=S:=h2;have hxa:VV m (.mp X) (a.eval x) []:=h4.ev (hx (x,.mp X) (by simp));have hya:=(h4.ev (hx (y,.prim (.int .i64 n)) (by simp))).prim;have hSp:=hS (p,(X,.ob (MapF P k e gf s))) (by simp);rw[<-h2',List.getElem?_map]at hSp;cases hz:Z[p]? with
 |none=>rw[hz]at hSp;cases hSp
 |some z1=>
  rw[hz]at hSp;simp only[Option.map_some,Option.some.injEq]at hSp;obtain⟨z1,bs⟩:=z1;simp only at hSp;subst hSp;obtain⟨R,hp1,hp2⟩:=Ab hz;have G:=h3.perm hp1;obtain⟨hU,L,hL,hbs,o,hb,hKo⟩:=G.obj _ (List.mem_cons_self ..);obtain⟨_,_,A,hA,hA2⟩:=hxa;simp only[List.cons.injEq,and_true]at hA;rw[hA2 L hL]at hA;obtain⟨D,hown,hC⟩:=hKo.own hb;have K:=int_keyed (P:=P) hk;have hwf:(Lit.int .i64 n).wf=true:=BV hn;have hkey:=keyOf_int_mk hk hwf;obtain⟨w',hrun,hown',hturn⟩:=hown.drop K ht hkey ty;obtain⟨es,clock,es',clock',hb0,rfl⟩:=hturn;obtain⟨o',ho',hF'⟩:=MapC.of hown' (hC.del (hown.tidy K) hwf);rw[DK hb0]at ho';obtain rfl:=Option.some.inj ho';obtain⟨G',hle⟩:=Ci G hL hbs _ hF' _ rfl;unfold Oper.wp
  have h5:(execOp a.eval ⟨dst,.call ⟨.builtin .delete,#[x,y],#[t,k]⟩,ty,pos,after,g⟩).run P m.w= .ok (.value (.tuple #[])) (setBlock m.w L.blk (.map es' clock')):=by
   rw[Aj];simp[builtin,hA,hya,hrun,Sem.run_bind,Result.andThen_ok,Sem.run_pure]
  rw[h5];refine⟨_,N,Z.set p ((X,.ob _),bs),rfl,?_,G'.perm (hp2 _).symm,(h4.mono hle).put hd ?_⟩
  ·rw[List.map_set,h2'];rfl
  ·exact rfl
end
class TMap(P:Program)(t:TypeId)(k e:outParam TypeId)(z0:outParam Value):Prop where
 h:P.underlying t=some (.map k e)
 hk:P.underlying k=some (.int .i64)
 hz:∀w,(zeroValue e).run P w= .ok z0 w
 h0:PlainV P e z0
section
variable {ro:Option Nat}{P:Program}{nt:Nat}{ops:Array Oper}{Q:Exit->St->Prop}{rest:List Oper}{T:List (Nat×AV)}{S:List AA}{ty t k e:TypeId}{pos:String}{after:Array Edge}{dst:Option Tmp}{c:Option (List Bool)}{g:Option (Nat×Bool)}{x y z:Operand}{X p:Nat}{gf:Int->Option Value}{s:Nat}{z0:Value}
theorem Fg[TMap P t k e z0](kk:∀X,AOps ro P nt ops Q rest ⟨AE T dst (.mp X),(X,.ob (MapF P k e (λ_=>none) 0))::S⟩)(hd:AD dst nt=true:=by rfl):AOps ro P nt ops Q (⟨dst,.makeMap t none,ty,pos,after,none⟩::rest) ⟨T,S⟩:=
 AOps.rs λX=>AOps.step (o:=⟨dst,.makeMap t none,ty,pos,after,none⟩) (xs:=[]) (rS:=[(0,(X,.gone))]) rfl (OpT.makeMap (TMap.h (z0:=z0))) .nil (.cons .here .nil) hd (kk X)
theorem CG{st:St}(kk:AOps ro P nt ops Q (⟨dst,.makeMap t none,ty,pos,after,g⟩::rest) st):AOps ro P nt ops Q (⟨dst,.makeMap t none,ty,pos,after,g⟩::rest) st:=kk
theorem W.mapUpd{n:Int}{u:Value}[TMap P t k e z0](hu:PlainV P e u)(hn: -9223372036854775808<=n/\n<=9223372036854775807)(hs:s<maxLen)(hx:Rd c T x (.mp X))(hy:Rd c T y (.prim (.int .i64 n)))(hz:Rd c T z (.prim u))(hSp:At S p (X,.ob (MapF P k e gf s))):
  Stp c P ⟨dst,.mapUpdate t x y z,ty,pos,after,g⟩ T S [(x,.mp X),(y,.prim (.int .i64 n)),(z,.prim u)] [(p,(X,.ob (MapF P k e gf s)))] .dead [(p,(X,.ob (MapF P k e (B1 gf n u) (if(gf n).isSome then s else s+1))))]:=
 ⟨.mapUpd (TMap.h (z0:=z0)) (TMap.hk (t:=t) (z0:=z0)) hn hu hs,.cons hx (.cons hy (.cons hz .nil)),.cons hSp .nil⟩
theorem Fr{n:Int}(v:Value)[TMap P t k e z0](hv:(gf n).getD z0=v)(hn: -9223372036854775808<=n/\n<=9223372036854775807)(hx:Rd c T x (.mp X))(hy:Rd c T y (.prim (.int .i64 n)))(hSp:At S p (X,.ob (MapF P k e gf s)))(hone:v.oneCell'=true:=by rfl):
  Stp c P ⟨dst,.lookup t x y false,ty,pos,after,g⟩ T S [(x,.mp X),(y,.prim (.int .i64 n))] [(p,(X,.ob (MapF P k e gf s)))] (.prim v) []:=by
 subst hv;exact⟨.lookup1 (TMap.h (z0:=z0)) (TMap.hk (t:=t) (z0:=z0)) (TMap.hz (t:=t)) (TMap.h0 (t:=t)) hn hone,.cons hx (.cons hy .nil),.cons hSp .nil⟩
theorem Co{n:Int}(v:Value)(b:Bool)[TMap P t k e z0](hv:(gf n).getD z0=v)(hb:(gf n).isSome=b)(hn: -9223372036854775808<=n/\n<=9223372036854775807)(hx:Rd c T x (.mp X))(hy:Rd c T y (.prim (.int .i64 n)))(hSp:At S p (X,.ob (MapF P k e gf s)))(hone:v.oneCell'=true:=by rfl):
  Stp c P ⟨dst,.lookup t x y true,ty,pos,after,g⟩ T S [(x,.mp X),(y,.prim (.int .i64 n))] [(p,(X,.ob (MapF P k e gf s)))] (.tup [.prim v,.prim (.bool b)]) []:=by
 subst hv hb;exact⟨.lookup2 (TMap.h (z0:=z0)) (TMap.hk (t:=t) (z0:=z0)) (TMap.hz (t:=t)) (TMap.h0 (t:=t)) hn hone,.cons hx (.cons hy .nil),.cons hSp .nil⟩
theorem W.mapDel{n:Int}[TMap P t k e z0](hn: -9223372036854775808<=n/\n<=9223372036854775807)(hx:Rd c T x (.mp X))(hy:Rd c T y (.prim (.int .i64 n)))(hSp:At S p (X,.ob (MapF P k e gf s))):
  Stp c P ⟨dst,.call ⟨.builtin .delete,#[x,y],#[t,k]⟩,ty,pos,after,g⟩ T S [(x,.mp X),(y,.prim (.int .i64 n))] [(p,(X,.ob (MapF P k e gf s)))] .dead [(p,(X,.ob (MapF P k e (EO gf n) (if(gf n).isSome then s-1 else s))))]:=
 ⟨.mapDel (ats:=#[]) (TMap.h (z0:=z0)) (TMap.hk (t:=t) (z0:=z0)) hn,.cons hx (.cons hy .nil),.cons hSp .nil⟩
end
end
end Go.Proofs.Ytaodhkbppgenbaa
