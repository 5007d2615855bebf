/-
  Part 2 of the texts under the law TopPackedWorld: the layer of abstract values, walks and plain laws. Conditions: those that each theorem names.
-/
import Derived.RangeFuncRecord
import Derived.Lib.SliceRun
import Derived.Laws.StructEq
import Derived.Lib.Overlaps
import Derived.Test.YtaodhkbppgenbaaTopPackedWorldP1
namespace Go.Proofs.Ytaodhkbppgenbaa
set_option linter.unusedVariables false
set_option linter.unusedSimpArgs false
set_option linter.defProp false
set_option maxRecDepth 10000
set_option maxHeartbeats 4000000
section
variable {ro:Option Nat}
open Go.RowKit
class TAg(P:Program)(t:TypeId)(b:outParam Bool):Prop where h:GP P t=some b
class TSize(P:Program)(t:TypeId)(n:outParam Nat):Prop where h:tSz P t=some n
class TEl(P:Program)(t:TypeId)(e:outParam TypeId):Prop where h:BM P t=some e
class TFl(P:Program)(s:TypeId)(f:Nat)(off:outParam Nat)(ft:outParam TypeId):Prop where h:IH P s f=some (off,ft)
class TSt(P:Program)(t:TypeId)(zl:outParam (List Value))(pl:outParam (List (Nat×Nat))):Prop where h:Je P t=some (zl,pl)
class TZe(P:Program)(t:TypeId)(zl:outParam (List Value)):Prop where h:tZ P t=some zl
class TBy(P:Program)(t:TypeId)(n:outParam Nat):Prop where h:(P.info? t).map (·.bytes)=some n
class TRo(P:Program)(t:TypeId)(te:outParam TypeId)(sz by_:outParam Nat):Prop where h:IG P t=some (te,sz,by_)
class TSg(P:Program)(t:TypeId):Prop where h:P.underlying t=some .string
def Rd:Option (List Bool)->List (Nat×AV)->Operand->AV->Prop
 |none,T,x,v=>ev T x=some v
 |some cs,T,x,v=>∃w,ev T x=some w/\Strips cs w v
theorem Strips.a1{c:Bool}{v:AV}:Strips [c] (.opt c v) v:=.step (by simp) .refl
theorem Strips.b12{c d:Bool}{v:AV}:Strips [c,d] (.opt c (.opt d v)) v:=.step (by simp) (.step (by simp) .refl)
theorem Rd.q{cs:List Bool}{T:List (Nat×AV)}{x:Operand}{w v:AV}(h:ev T x=some w)(k:Strips cs w v):Rd (some cs) T x v:=⟨w,h,k⟩
inductive Rds(c:Option (List Bool))(T:List (Nat×AV)):List (Operand×AV)->Prop
 |nil:Rds c T []
 |cons {x:Operand} {v:AV} {r:List (Operand×AV)} (h:Rd c T x v) (k:Rds c T r):Rds c T ((x,v)::r)
structure Stp(c:Option (List Bool))(P:Program)(o:Oper)(T:List (Nat×AV))(S:List AA)(xs:List (Operand×AV))(rS:List (Nat×AA))(v:AV)(wS:List (Nat×AA)):Prop where
 op:OpT P o xs rS v wS
 rd:Rds c T xs
 get:Gets S rS
theorem Rds.evs{T:List (Nat×AV)}{xs:List (Operand×AV)}(h:Rds none T xs):Evs T xs:=by
 induction h with
 |nil=>exact .nil
 |cons h _ ih=>exact .cons h ih
theorem Rds.evcs{c:List Bool}{T:List (Nat×AV)}{xs:List (Operand×AV)}(h:Rds (some c) T xs):EvCs c T xs:=by
 induction h with
 |nil=>exact .nil
 |cons h _ ih=>obtain⟨w,h,hs⟩:=h;exact .cons h hs ih
section
variable {P:Program}{nt:Nat}{ops:Array Oper}{Q:Exit->St->Prop}{rest:List Oper}{st':St}{T:List (Nat×AV)}{S:List AA}{xs:List (Operand×AV)}{rS wS:List (Nat×AA)}{v:AV}{effs:List Eff}{op:Op}{ty:TypeId}{pos:String}{after:Array Edge}{dst:Option Tmp}
theorem AOps.p(h:Stp none P ⟨dst,op,ty,pos,after,none⟩ T S xs rS v [])(hd:AD dst nt=true)(k:AOps ro P nt ops Q rest ⟨AL T dst v,S⟩):AOps ro P nt ops Q (⟨dst,op,ty,pos,after,none⟩::rest) ⟨T,S⟩:=.step rfl h.op h.rd.evs h.get hd k
theorem AOps.s(h:Stp none P ⟨dst,op,ty,pos,after,none⟩ T S xs rS v wS)(hd:AD dst nt=true)(k:AOps ro P nt ops Q rest ⟨AL T dst v,AM S wS⟩):AOps ro P nt ops Q (⟨dst,op,ty,pos,after,none⟩::rest) ⟨T,S⟩:=.step rfl h.op h.rd.evs h.get hd k
theorem AOps.sQ{g:Nat}{b b':Bool}{t:Nat}{wg:AV}{cs:List Bool}(ht:(ops[g]?).bind (·.dst)=some t)(hv:AQ T t=some wg)(hc:CL wg=some (cs,b'))(h:Stp (some (cs++[b'==b])) P ⟨dst,op,ty,pos,after,some (g,b)⟩ T S xs rS v [])(hd:AD dst nt=true)(hos:BA xs=true)
  (k:AOps ro P nt ops Q rest ⟨AL T dst (Cn (cs++[b'==b]) v),S⟩):AOps ro P nt ops Q (⟨dst,op,ty,pos,after,some (g,b)⟩::rest) ⟨T,S⟩:=.stepQ rfl ht hv hc (λ_=>h.op) h.rd.evcs h.get hd hos k
theorem AOps.sN{g:Nat}{b b':Bool}{t:Nat}(ht:(ops[g]?).bind (·.dst)=some t)(hv:AQ T t=some (.prim (.bool b')))(hb:b'= !b)(hd:AD dst nt=true)(k:AOps ro P nt ops Q rest ⟨AL T dst .dead,S⟩):AOps ro P nt ops Q (⟨dst,op,ty,pos,after,some (g,b)⟩::rest) ⟨T,S⟩:=.skipG rfl ht hv hb hd k
theorem AOps.sQ1{g:Nat}{b b':Bool}{t:Nat}(h:Stp (some [b'==b]) P ⟨dst,op,ty,pos,after,some (g,b)⟩ T S xs rS v [])(ht:(ops[g]?).bind (·.dst)=some t)(hv:AQ T t=some (.prim (.bool b')))(hd:AD dst nt=true)(hos:BA xs=true)
  (k:AOps ro P nt ops Q rest ⟨AL T dst (.opt (b'==b) v),S⟩):AOps ro P nt ops Q (⟨dst,op,ty,pos,after,some (g,b)⟩::rest) ⟨T,S⟩:=AOps.sQ ht hv rfl h hd hos k
theorem AOps.sQ2{c1:Bool}{g:Nat}{b b':Bool}{t:Nat}(h:Stp (some [c1,b'==b]) P ⟨dst,op,ty,pos,after,some (g,b)⟩ T S xs rS v [])(ht:(ops[g]?).bind (·.dst)=some t)(hv:AQ T t=some (.opt c1 (.prim (.bool b'))))(hd:AD dst nt=true)(hos:BA xs=true)
  (k:AOps ro P nt ops Q rest ⟨AL T dst (.opt c1 (.opt (b'==b) v)),S⟩):AOps ro P nt ops Q (⟨dst,op,ty,pos,after,some (g,b)⟩::rest) ⟨T,S⟩:=AOps.sQ ht hv rfl h hd hos k
theorem AOps.sQ3{c1 c2:Bool}{g:Nat}{b b':Bool}{t:Nat}(h:Stp (some [c1,c2,b'==b]) P ⟨dst,op,ty,pos,after,some (g,b)⟩ T S xs rS v [])(ht:(ops[g]?).bind (·.dst)=some t)(hv:AQ T t=some (.opt c1 (.opt c2 (.prim (.bool b')))))(hd:AD dst nt=true)(hos:BA xs=true)
  (k:AOps ro P nt ops Q rest ⟨AL T dst (.opt c1 (.opt c2 (.opt (b'==b) v))),S⟩):AOps ro P nt ops Q (⟨dst,op,ty,pos,after,some (g,b)⟩::rest) ⟨T,S⟩:=AOps.sQ ht hv rfl h hd hos k
theorem Run.p(h:Stp none P ⟨dst,op,ty,pos,after,none⟩ T S xs rS v [])(hd:AD dst nt=true)(k:Run P nt ops rest ⟨AL T dst v,S⟩ effs st'):Run P nt ops (⟨dst,op,ty,pos,after,none⟩::rest) ⟨T,S⟩ (⟨⟨dst,op,ty,pos,after,none⟩,AW xs,rS.map (·.1),v,[]⟩::effs) st':=.step rfl h.op h.rd.evs h.get hd k
theorem Run.s(h:Stp none P ⟨dst,op,ty,pos,after,none⟩ T S xs rS v wS)(hd:AD dst nt=true)(k:Run P nt ops rest ⟨AL T dst v,AM S wS⟩ effs st'):Run P nt ops (⟨dst,op,ty,pos,after,none⟩::rest) ⟨T,S⟩ (⟨⟨dst,op,ty,pos,after,none⟩,AW xs,rS.map (·.1),v,wS⟩::effs) st':=.step rfl h.op h.rd.evs h.get hd k
theorem Run.sG{g:Nat}{b b':Bool}{t:Nat}(ht:(ops[g]?).bind (·.dst)=some t)(hv:AQ T t=some (.prim (.bool b')))(hb:b'=b)(h:Stp none P ⟨dst,op,ty,pos,after,some (g,b)⟩ T S xs rS v wS)(hd:AD dst nt=true)(k:Run P nt ops rest ⟨AL T dst v,AM S wS⟩ effs st'):Run P nt ops (⟨dst,op,ty,pos,after,some (g,b)⟩::rest) ⟨T,S⟩ (⟨⟨dst,op,ty,pos,after,some (g,b)⟩,t::AW xs,rS.map (·.1),v,wS⟩::effs) st':=
 .stepG rfl ht hv hb h.op h.rd.evs h.get hd k
theorem Run.sQ{g:Nat}{b b':Bool}{t:Nat}{wg:AV}{cs:List Bool}(ht:(ops[g]?).bind (·.dst)=some t)(hv:AQ T t=some wg)(hc:CL wg=some (cs,b'))(h:Stp (some (cs++[b'==b])) P ⟨dst,op,ty,pos,after,some (g,b)⟩ T S xs rS v [])(hd:AD dst nt=true)(hos:BA xs=true)
  (k:Run P nt ops rest ⟨AL T dst (Cn (cs++[b'==b]) v),S⟩ effs st'):Run P nt ops (⟨dst,op,ty,pos,after,some (g,b)⟩::rest) ⟨T,S⟩ (⟨⟨dst,op,ty,pos,after,some (g,b)⟩,t::AW xs,rS.map (·.1),Cn (cs++[b'==b]) v,[]⟩::effs) st':=.stepQ rfl ht hv hc (λ_=>h.op) h.rd.evcs h.get hd hos k
theorem Run.sN{g:Nat}{b b':Bool}{t:Nat}(ht:(ops[g]?).bind (·.dst)=some t)(hv:AQ T t=some (.prim (.bool b')))(hb:b'= !b)(hd:AD dst nt=true)(k:Run P nt ops rest ⟨AL T dst .dead,S⟩ effs st'):Run P nt ops (⟨dst,op,ty,pos,after,some (g,b)⟩::rest) ⟨T,S⟩ (⟨⟨dst,op,ty,pos,after,some (g,b)⟩,[t],[],.dead,[]⟩::effs) st':=.skipG rfl ht hv hb hd k
theorem Run.sQ1{g:Nat}{b b':Bool}{t:Nat}(h:Stp (some [b'==b]) P ⟨dst,op,ty,pos,after,some (g,b)⟩ T S xs rS v [])(ht:(ops[g]?).bind (·.dst)=some t)(hv:AQ T t=some (.prim (.bool b')))(hd:AD dst nt=true)(hos:BA xs=true)
  (k:Run P nt ops rest ⟨AL T dst (.opt (b'==b) v),S⟩ effs st'):Run P nt ops (⟨dst,op,ty,pos,after,some (g,b)⟩::rest) ⟨T,S⟩ (⟨⟨dst,op,ty,pos,after,some (g,b)⟩,t::AW xs,rS.map (·.1),(.opt (b'==b) v),[]⟩::effs) st':=Run.sQ ht hv rfl h hd hos k
theorem Run.sQ2{c1:Bool}{g:Nat}{b b':Bool}{t:Nat}(h:Stp (some [c1,b'==b]) P ⟨dst,op,ty,pos,after,some (g,b)⟩ T S xs rS v [])(ht:(ops[g]?).bind (·.dst)=some t)(hv:AQ T t=some (.opt c1 (.prim (.bool b'))))(hd:AD dst nt=true)(hos:BA xs=true)
  (k:Run P nt ops rest ⟨AL T dst (.opt c1 (.opt (b'==b) v)),S⟩ effs st'):Run P nt ops (⟨dst,op,ty,pos,after,some (g,b)⟩::rest) ⟨T,S⟩ (⟨⟨dst,op,ty,pos,after,some (g,b)⟩,t::AW xs,rS.map (·.1),(.opt c1 (.opt (b'==b) v)),[]⟩::effs) st':=Run.sQ ht hv rfl h hd hos k
theorem Run.sQ3{c1 c2:Bool}{g:Nat}{b b':Bool}{t:Nat}(h:Stp (some [c1,c2,b'==b]) P ⟨dst,op,ty,pos,after,some (g,b)⟩ T S xs rS v [])(ht:(ops[g]?).bind (·.dst)=some t)(hv:AQ T t=some (.opt c1 (.opt c2 (.prim (.bool b')))))(hd:AD dst nt=true)(hos:BA xs=true)
  (k:Run P nt ops rest ⟨AL T dst (.opt c1 (.opt c2 (.opt (b'==b) v))),S⟩ effs st'):Run P nt ops (⟨dst,op,ty,pos,after,some (g,b)⟩::rest) ⟨T,S⟩ (⟨⟨dst,op,ty,pos,after,some (g,b)⟩,t::AW xs,rS.map (·.1),(.opt c1 (.opt c2 (.opt (b'==b) v))),[]⟩::effs) st':=Run.sQ ht hv rfl h hd hos k
section
variable {P:Program}{nt:Nat}{ops:Array Oper}{Q:Exit->St->Prop}{rest:List Oper}{st st':St}{effs:List Eff}{ty t t2:TypeId}{pos:String}{after:Array Edge}{dst:Option Tmp}{g:Option (Nat×Bool)}{x y z:Operand}{f n:Nat}{ar:Array (Nat×Operand)}
theorem AOps.g_box(k:AOps ro P nt ops Q (⟨dst,.box t x,ty,pos,after,g⟩::rest) st):AOps ro P nt ops Q (⟨dst,.box t x,ty,pos,after,g⟩::rest) st:=k
end
def RGo(P:Program)(nt:Nat)(ops:Array Oper)(l:List Oper)(Q:Exit->St->Prop)(rest:List Oper)(acc:List Eff)(st:St):Prop:=
 ∃effs st',Run P nt ops rest st effs st' /\FF (acc++effs) (C9 l [])=true/\Q .normal st'
theorem AWP.region_run{P:Program}{nt:Nat}{Q:Exit->St->Prop}{id:Nat}{l:List Oper}{st:St}(hm:P.follows .mixedOrders=true)(hdn:Hy l 0=true)(h:RGo P nt l.toArray l Q l [] st):AWP ro P nt (.region id l.toArray true) Q st:=by
 obtain⟨effs,st',h1,h2,h3⟩:=h;exact .region_any hm h1 (by simpa using h2) hdn h3
section
variable {P:Program}{nt:Nat}{ops:Array Oper}{Q:Exit->St->Prop}{l rest:List Oper}{acc:List Eff}{st:St}{T:List (Nat×AV)}{S:List AA}{xs:List (Operand×AV)}{rS wS:List (Nat×AA)}{v:AV}{op:Op}{ty:TypeId}{pos:String}{after:Array Edge}{dst:Option Tmp}
theorem RGo.nil(hc:FF acc (C9 l [])=true)(k:Q .normal st):RGo P nt ops l Q [] acc st:=⟨[],st,.nil,by simpa using hc,k⟩
theorem BW{o:Oper}{e:Eff}{st':St}(h:∀{effs st''},Run P nt ops rest st' effs st'' ->Run P nt ops (o::rest) st (e::effs) st'')(k:RGo P nt ops l Q rest (acc++[e]) st'):RGo P nt ops l Q (o::rest) acc st:=by
 obtain⟨effs,st'',h1,h2,h3⟩:=k;exact⟨_,_,h h1,by simpa using h2,h3⟩
theorem RGo.p(h:Stp none P ⟨dst,op,ty,pos,after,none⟩ T S xs rS v [])(hd:AD dst nt=true)(k:RGo P nt ops l Q rest (acc++[⟨⟨dst,op,ty,pos,after,none⟩,AW xs,rS.map (·.1),v,[]⟩]) ⟨AL T dst v,S⟩):RGo P nt ops l Q (⟨dst,op,ty,pos,after,none⟩::rest) acc ⟨T,S⟩:=BW (λr=>Run.p h hd r) k
theorem RGo.s(h:Stp none P ⟨dst,op,ty,pos,after,none⟩ T S xs rS v wS)(hd:AD dst nt=true)(k:RGo P nt ops l Q rest (acc++[⟨⟨dst,op,ty,pos,after,none⟩,AW xs,rS.map (·.1),v,wS⟩]) ⟨AL T dst v,AM S wS⟩):RGo P nt ops l Q (⟨dst,op,ty,pos,after,none⟩::rest) acc ⟨T,S⟩:=BW (λr=>Run.s h hd r) k
theorem RGo.sG{g:Nat}{b b':Bool}{t:Nat}(ht:(ops[g]?).bind (·.dst)=some t)(hv:AQ T t=some (.prim (.bool b')))(hb:b'=b)(h:Stp none P ⟨dst,op,ty,pos,after,some (g,b)⟩ T S xs rS v wS)(hd:AD dst nt=true)(k:RGo P nt ops l Q rest (acc++[⟨⟨dst,op,ty,pos,after,some (g,b)⟩,t::AW xs,rS.map (·.1),v,wS⟩]) ⟨AL T dst v,AM S wS⟩):RGo P nt ops l Q (⟨dst,op,ty,pos,after,some (g,b)⟩::rest) acc ⟨T,S⟩:=BW (λr=>Run.sG ht hv hb h hd r) k
theorem RGo.sQ1{g:Nat}{b b':Bool}{t:Nat}(h:Stp (some [b'==b]) P ⟨dst,op,ty,pos,after,some (g,b)⟩ T S xs rS v [])(ht:(ops[g]?).bind (·.dst)=some t)(hv:AQ T t=some (.prim (.bool b')))(hd:AD dst nt=true)(hos:BA xs=true)
  (k:RGo P nt ops l Q rest (acc++[⟨⟨dst,op,ty,pos,after,some (g,b)⟩,t::AW xs,rS.map (·.1),(.opt (b'==b) v),[]⟩]) ⟨AL T dst (.opt (b'==b) v),S⟩):RGo P nt ops l Q (⟨dst,op,ty,pos,after,some (g,b)⟩::rest) acc ⟨T,S⟩:=BW (λr=>Run.sQ1 h ht hv hd hos r) k
theorem RGo.sQ2{c1:Bool}{g:Nat}{b b':Bool}{t:Nat}(h:Stp (some [c1,b'==b]) P ⟨dst,op,ty,pos,after,some (g,b)⟩ T S xs rS v [])(ht:(ops[g]?).bind (·.dst)=some t)(hv:AQ T t=some (.opt c1 (.prim (.bool b'))))(hd:AD dst nt=true)(hos:BA xs=true)
  (k:RGo P nt ops l Q rest (acc++[⟨⟨dst,op,ty,pos,after,some (g,b)⟩,t::AW xs,rS.map (·.1),(.opt c1 (.opt (b'==b) v)),[]⟩]) ⟨AL T dst (.opt c1 (.opt (b'==b) v)),S⟩):RGo P nt ops l Q (⟨dst,op,ty,pos,after,some (g,b)⟩::rest) acc ⟨T,S⟩:=BW (λr=>Run.sQ2 h ht hv hd hos r) k
theorem RGo.sQ3{c1 c2:Bool}{g:Nat}{b b':Bool}{t:Nat}(h:Stp (some [c1,c2,b'==b]) P ⟨dst,op,ty,pos,after,some (g,b)⟩ T S xs rS v [])(ht:(ops[g]?).bind (·.dst)=some t)(hv:AQ T t=some (.opt c1 (.opt c2 (.prim (.bool b')))))(hd:AD dst nt=true)(hos:BA xs=true)
  (k:RGo P nt ops l Q rest (acc++[⟨⟨dst,op,ty,pos,after,some (g,b)⟩,t::AW xs,rS.map (·.1),(.opt c1 (.opt c2 (.opt (b'==b) v))),[]⟩]) ⟨AL T dst (.opt c1 (.opt c2 (.opt (b'==b) v))),S⟩):RGo P nt ops l Q (⟨dst,op,ty,pos,after,some (g,b)⟩::rest) acc ⟨T,S⟩:=BW (λr=>Run.sQ3 h ht hv hd hos r) k
theorem RGo.sN{g:Nat}{b b':Bool}{t:Nat}(ht:(ops[g]?).bind (·.dst)=some t)(hv:AQ T t=some (.prim (.bool b')))(hb:b'= !b)(hd:AD dst nt=true)(k:RGo P nt ops l Q rest (acc++[⟨⟨dst,op,ty,pos,after,some (g,b)⟩,[t],[],.dead,[]⟩]) ⟨AL T dst .dead,S⟩):RGo P nt ops l Q (⟨dst,op,ty,pos,after,some (g,b)⟩::rest) acc ⟨T,S⟩:=BW (λr=>Run.sN ht hv hb hd r) k
variable {t t2:TypeId}{g:Option (Nat×Bool)}{x y z:Operand}{f n:Nat}{ar:Array (Nat×Operand)}
theorem AX{op:Op}{g:Nat×Bool}(k:RGo P nt ops l Q (⟨dst,op,ty,pos,after,some g⟩::rest) acc st):RGo P nt ops l Q (⟨dst,op,ty,pos,after,some g⟩::rest) acc st:=k
end
theorem A5{c:Code}{st:St}{β:Type}(inv:β->St)(R:β->Prop)(μ:β->Nat)(b0:β)(hR:R b0)(h0:st.Le (inv b0))(round:∀b,R b->AWP ro P nt c (andThen (λst'=>∃b',R b' /\μ b'<μ b/\st'.Le (inv b')) Q) (inv b)):AWP ro P nt (.loop c) Q st:=
 .loop (β:={b:β//R b}) (λb=>inv b.1) (λb=>μ b.1) ⟨b0,hR⟩ h0 λb=>(round b.1 b.2).mono λe st' h=>by
  cases e with
  |normal=>obtain⟨b',h1,h2,h3⟩:=h;exact⟨⟨b',h1⟩,h2,h3⟩
  |_=>exact h
theorem GD{K:St->Prop}{Q:Exit->St->Prop}{st:St}(h:K st):andThen K Q .normal st:=h
theorem KO{K:St->Prop}{Q:Exit->St->Prop}{st:St}(h:Q .ret st):andThen K Q .ret st:=h
theorem GE{K:St->Prop}{Q:Exit->St->Prop}{st:St}{i:Nat}(h:Q (.exit i) st):andThen K Q (.exit i) st:=h
theorem Mi{id:Nat}{Q:Exit->St->Prop}{st:St}(h:Q .normal st):inB id Q .normal st:=h
theorem NV{id:Nat}{Q:Exit->St->Prop}{st:St}(h:Q .ret st):inB id Q .ret st:=h
theorem Mj{id:Nat}{Q:Exit->St->Prop}{st:St}(h:Q .normal st):inB id Q (.exit id) st:=by
 show(match Nat.beq id id with|true=>Q .normal st|false=>Q (.exit id) st)
 rw[show Nat.beq id id=true from by simp];exact h
theorem LB{id i:Nat}{Q:Exit->St->Prop}{st:St}(hi:Nat.beq i id=false)(h:Q (.exit i) st):inB id Q (.exit i) st:=by
 show(match Nat.beq i id with|true=>Q .normal st|false=>Q (.exit i) st)
 rw[hi];exact h
theorem Mt{res:List ResultVar}{Sf:List AA}{Q:AV->List AA->Prop}{st:St}(h:Ends P res Sf Q st):Mu P res Sf Q .ret st:=h
theorem IM{res:List ResultVar}{Sf:List AA}{Q:AV->List AA->Prop}{st:St}(h:Ends P res Sf Q st):Mu P res Sf Q .normal st:=h
theorem AR{t:Nat}{Sf:List AA}{Q:AV->List AA->Prop}{st:St}{a:AV}(h:AQ st.T t=some a)(ha:ntup a=true)(hS:Sf.Sublist st.S)(hQ:Q a []):Ends P [.tmp t] Sf Q st:=
 ⟨[a],[a],st.S,[],.cons (.tmp h) ha .nil,.cons (.cell .same) .nil,hS,hQ⟩
theorem Aj{α β:Type}(f:α->β){l:List α}{i:Nat}(h:i<l.length):(l.map f)[i]?=some (f l[i]):=by simp[h]
theorem AOps.rs(k:∀X,AOps ro P nt ops Q rest ⟨T,(X,.gone)::S⟩):AOps ro P nt ops Q rest ⟨T,S⟩:=.reserve k
theorem AWP.rs{c:Code}(k:∀X,AWP ro P nt c Q ⟨T,(X,.gone)::S⟩):AWP ro P nt c Q ⟨T,S⟩:=.reserve k
variable {c:Option (List Bool)}{x y z:Operand}{t ty2 t' te:TypeId}{g:Option (Nat×Bool)}{i j:Int}{k:IntKind}{p q X Y sz n:Nat}{l ls:List AV}{cs:List AV}{e:AV}
theorem OpT.index_strD{P:Program}{dst:Option Tmp}{x y:Operand}{t ty:TypeId}{pos:String}{after:Array Edge}{g:Option (Nat×Bool)}{k:IntKind}{i:Int}{s:List UInt8}{a:Nat}(ht:P.underlying t=some .string)(hq:i=(a:Int))(hi:a<s.length):OpT P ⟨dst,.index t x y,ty,pos,after,g⟩ [(x,.prim (BT s)),(y,.prim (.int k i))] [] (.prim (.int .u8 ((s.getD a 0).toNat:Int))) []:=by
 rw[show s.getD a 0=s[a]from by simp[hi]];exact .index_str ht hq hi
section
variable {P:Program}{dst:Option Tmp}{x y:Operand}{t ty ty2:TypeId}{pos:String}{after:Array Edge}{g:Option (Nat×Bool)}{k k':IntKind}{i j:Int}{ats:Array TypeId}
theorem OpT.shl{n:Nat}(hj:j=(n:Int))(hn:n<=k.bits):OpT P ⟨dst,.binOp .shl t x y ty2,ty,pos,after,g⟩ [(x,.prim (.int k i)),(y,.prim (.int k' j))] [] (.prim (.int k (k.wrap (i*2^n)))) []:=
 Am rfl (λw=>by
  subst hj;have h:¬((n:Int)<0):=by omega
  simp[binOp,Op.shift,h,Sem.run_pure,Nat.min_eq_left hn]) (.inl ⟨by simp,by simp⟩)
theorem OpT.min2:OpT P ⟨dst,.call ⟨.builtin .min,#[x,y],ats⟩,ty,pos,after,g⟩ [(x,.prim (.int k i)),(y,.prim (.int k j))] [] (.prim (.int k (if j<i then j else i))) []:=
 .pure_ λm a hx _=>by
  have h1:=(hx (x,.prim (.int k i)) (by simp)).prim;have h2:=(hx (y,.prim (.int k j)) (by simp)).prim;simp only at h1 h2;refine⟨_,?_,Au _⟩;rw[An];simp[builtin,Builtin.min_,Builtin.min2,h1,h2,Sem.run_bind,Sem.run_pure,Result.andThen_ok]
theorem OpT.max2:OpT P ⟨dst,.call ⟨.builtin .max,#[x,y],ats⟩,ty,pos,after,g⟩ [(x,.prim (.int k i)),(y,.prim (.int k j))] [] (.prim (.int k (if i<j then j else i))) []:=
 .pure_ λm a hx _=>by
  have h1:=(hx (x,.prim (.int k i)) (by simp)).prim;have h2:=(hx (y,.prim (.int k j)) (by simp)).prim;simp only at h1 h2;refine⟨_,?_,Au _⟩;rw[An];simp[builtin,Builtin.max_,Builtin.max2,h1,h2,Sem.run_bind,Sem.run_pure,Result.andThen_ok]
end
namespace W
theorem move(hx:Rd c T x (v)):Stp c P ⟨dst,.move x,ty,pos,after,g⟩ T S [(x,v)] [] (v) []:=⟨.move,(.cons hx .nil),.nil⟩
theorem assign(hx:Rd c T x (v)):Stp c P ⟨dst,.assign x,ty,pos,after,g⟩ T S [(x,v)] [] (v) []:=⟨.assign,(.cons hx .nil),.nil⟩
theorem lss(hx:Rd c T x (.prim (.int k i)))(hy:Rd c T y (.prim (.int k j))):Stp c P ⟨dst,.binOp .lss t x y ty2,ty,pos,after,g⟩ T S [(x,.prim (.int k i)),(y,.prim (.int k j))] [] (.prim (.bool (decide (i<j)))) []:=⟨.lss,(.cons hx (.cons hy .nil)),.nil⟩
theorem leq(hx:Rd c T x (.prim (.int k i)))(hy:Rd c T y (.prim (.int k j))):Stp c P ⟨dst,.binOp .leq t x y ty2,ty,pos,after,g⟩ T S [(x,.prim (.int k i)),(y,.prim (.int k j))] [] (.prim (.bool (decide (i<=j)))) []:=⟨.leq,(.cons hx (.cons hy .nil)),.nil⟩
theorem gtr(hx:Rd c T x (.prim (.int k i)))(hy:Rd c T y (.prim (.int k j))):Stp c P ⟨dst,.binOp .gtr t x y ty2,ty,pos,after,g⟩ T S [(x,.prim (.int k i)),(y,.prim (.int k j))] [] (.prim (.bool (decide (j<i)))) []:=⟨.gtr,(.cons hx (.cons hy .nil)),.nil⟩
theorem geq(hx:Rd c T x (.prim (.int k i)))(hy:Rd c T y (.prim (.int k j))):Stp c P ⟨dst,.binOp .geq t x y ty2,ty,pos,after,g⟩ T S [(x,.prim (.int k i)),(y,.prim (.int k j))] [] (.prim (.bool (decide (j<=i)))) []:=⟨.geq,(.cons hx (.cons hy .nil)),.nil⟩
theorem eqI(hx:Rd c T x (.prim (.int k i)))(hy:Rd c T y (.prim (.int k j))):Stp c P ⟨dst,.binOp .eql t x y ty2,ty,pos,after,g⟩ T S [(x,.prim (.int k i)),(y,.prim (.int k j))] [] (.prim (.bool (decide (i=j)))) []:=⟨.eql_int,(.cons hx (.cons hy .nil)),.nil⟩
theorem neI(hx:Rd c T x (.prim (.int k i)))(hy:Rd c T y (.prim (.int k j))):Stp c P ⟨dst,.binOp .neq t x y ty2,ty,pos,after,g⟩ T S [(x,.prim (.int k i)),(y,.prim (.int k j))] [] (.prim (.bool (decide (i≠j)))) []:=⟨.neq_int,(.cons hx (.cons hy .nil)),.nil⟩
theorem eqS{a b:List UInt8}(hx:Rd c T x (.prim (BT a)))(hy:Rd c T y (.prim (BT b))):Stp c P ⟨dst,.binOp .eql t x y ty2,ty,pos,after,g⟩ T S [(x,.prim (BT a)),(y,.prim (BT b))] [] (.prim (.bool (decide (a=b)))) []:=⟨.eql_str,(.cons hx (.cons hy .nil)),.nil⟩
theorem neS{a b:List UInt8}(hx:Rd c T x (.prim (BT a)))(hy:Rd c T y (.prim (BT b))):Stp c P ⟨dst,.binOp .neq t x y ty2,ty,pos,after,g⟩ T S [(x,.prim (BT a)),(y,.prim (BT b))] [] (.prim (.bool (decide (a≠b)))) []:=⟨.neq_str,(.cons hx (.cons hy .nil)),.nil⟩
theorem add(hx:Rd c T x (.prim (.int .i64 i)))(hy:Rd c T y (.prim (.int .i64 j)))(h: -9223372036854775808<=i+j/\i+j<=9223372036854775807):Stp c P ⟨dst,.binOp .add t x y ty2,ty,pos,after,g⟩ T S [(x,.prim (.int .i64 i)),(y,.prim (.int .i64 j))] [] (.prim (.int .i64 (i+j))) []:=⟨.add h.1 h.2,(.cons hx (.cons hy .nil)),.nil⟩
theorem sub(hx:Rd c T x (.prim (.int .i64 i)))(hy:Rd c T y (.prim (.int .i64 j)))(h: -9223372036854775808<=i-j/\i-j<=9223372036854775807):Stp c P ⟨dst,.binOp .sub t x y ty2,ty,pos,after,g⟩ T S [(x,.prim (.int .i64 i)),(y,.prim (.int .i64 j))] [] (.prim (.int .i64 (i-j))) []:=⟨.sub h.1 h.2,(.cons hx (.cons hy .nil)),.nil⟩
theorem mul(hx:Rd c T x (.prim (.int .i64 i)))(hy:Rd c T y (.prim (.int .i64 j)))(h: -9223372036854775808<=i*j/\i*j<=9223372036854775807):Stp c P ⟨dst,.binOp .mul t x y ty2,ty,pos,after,g⟩ T S [(x,.prim (.int .i64 i)),(y,.prim (.int .i64 j))] [] (.prim (.int .i64 (i*j))) []:=⟨.mul h.1 h.2,(.cons hx (.cons hy .nil)),.nil⟩
theorem rem(hx:Rd c T x (.prim (.int k i)))(hy:Rd c T y (.prim (.int k j)))(h:j≠0):Stp c P ⟨dst,.binOp .rem t x y ty2,ty,pos,after,g⟩ T S [(x,.prim (.int k i)),(y,.prim (.int k j))] [] (.prim (.int k (i.tmod j))) []:=⟨.rem h,(.cons hx (.cons hy .nil)),.nil⟩
theorem quoW(hx:Rd c T x (.prim (.int k i)))(hy:Rd c T y (.prim (.int k j)))(h:j≠0):Stp c P ⟨dst,.binOp .quo t x y ty2,ty,pos,after,g⟩ T S [(x,.prim (.int k i)),(y,.prim (.int k j))] [] (.prim (.int k (k.wrap (i.tdiv j)))) []:=⟨.quo h,(.cons hx (.cons hy .nil)),.nil⟩
theorem shl{m:Nat}{k':IntKind}(hx:Rd c T x (.prim (.int k i)))(hy:Rd c T y (.prim (.int k' j)))(hj:j=(m:Int))(hm:m<=k.bits):Stp c P ⟨dst,.binOp .shl t x y ty2,ty,pos,after,g⟩ T S [(x,.prim (.int k i)),(y,.prim (.int k' j))] [] (.prim (.int k (k.wrap (i*2^m)))) []:=⟨.shl hj hm,(.cons hx (.cons hy .nil)),.nil⟩
theorem min2{ats:Array TypeId}(hx:Rd c T x (.prim (.int k i)))(hy:Rd c T y (.prim (.int k j))):Stp c P ⟨dst,.call ⟨.builtin .min,#[x,y],ats⟩,ty,pos,after,g⟩ T S [(x,.prim (.int k i)),(y,.prim (.int k j))] [] (.prim (.int k (if j<i then j else i))) []:=⟨.min2,(.cons hx (.cons hy .nil)),.nil⟩
theorem max2{ats:Array TypeId}(hx:Rd c T x (.prim (.int k i)))(hy:Rd c T y (.prim (.int k j))):Stp c P ⟨dst,.call ⟨.builtin .max,#[x,y],ats⟩,ty,pos,after,g⟩ T S [(x,.prim (.int k i)),(y,.prim (.int k j))] [] (.prim (.int k (if i<j then j else i))) []:=⟨.max2,(.cons hx (.cons hy .nil)),.nil⟩
theorem not{b:Bool}(hx:Rd c T x (.prim (.bool b))):Stp c P ⟨dst,.unOp .not t x,ty,pos,after,g⟩ T S [(x,.prim (.bool b))] [] (.prim (.bool !b)) []:=⟨.not,(.cons hx .nil),.nil⟩
theorem pick{b:Bool}{va vb:AV}(hx:Rd c T x (.prim (.bool b)))(hy:Rd c T y (va))(hz:Rd c T z (vb)):Stp c P ⟨dst,.pick x y z,ty,pos,after,g⟩ T S [(x,.prim (.bool b)),(y,va),(z,vb)] [] (Na b va vb) []:=⟨.pick,(.cons hx (.cons hy (.cons hz .nil))),.nil⟩
theorem pickP{b:Bool}{u1 u2:Value}(hx:Rd c T x (.prim (.bool b)))(hy:Rd c T y (.prim u1))(hz:Rd c T z (.prim u2)):Stp c P ⟨dst,.pick x y z,ty,pos,after,g⟩ T S [(x,.prim (.bool b)),(y,.prim u1),(z,.prim u2)] [] (.prim (if b then u1 else u2)) []:=⟨.pick_prim,(.cons hx (.cons hy (.cons hz .nil))),.nil⟩
theorem orQ{b d:Bool}(hx:Rd c T x (.prim (.bool b)))(hy:Rd c T y (.prim (.bool true)))(hz:Rd c T z (.opt (b==false) (.prim (.bool d)))):Stp c P ⟨dst,.pick x y z,ty,pos,after,g⟩ T S [(x,.prim (.bool b)),(y,.prim (.bool true)),(z,.opt (b==false) (.prim (.bool d)))] [] (.prim (.bool (b||d))) []:=⟨.or_opt,(.cons hx (.cons hy (.cons hz .nil))),.nil⟩
theorem andQ{b d:Bool}(hx:Rd c T x (.prim (.bool b)))(hy:Rd c T y (.opt (b==true) (.prim (.bool d))))(hz:Rd c T z (.prim (.bool false))):Stp c P ⟨dst,.pick x y z,ty,pos,after,g⟩ T S [(x,.prim (.bool b)),(y,.opt (b==true) (.prim (.bool d))),(z,.prim (.bool false))] [] (.prim (.bool (b&&d))) []:=⟨.and_opt,(.cons hx (.cons hy (.cons hz .nil))),.nil⟩
theorem extract{as:List AV}{m:Nat}(hx:Rd c T x (.tup as))(h:as[m]?=some v):Stp c P ⟨dst,.extract x m,ty,pos,after,g⟩ T S [(x,.tup as)] [] (v) []:=⟨.extract h,(.cons hx .nil),.nil⟩
theorem loadF{ag:Bool}[TAg P t ag][TSize P t n](hx:Rd c T x (.fp cs))(h:B1 cs 0 n ag=some v):Stp c P ⟨dst,.load t x,ty,pos,after,g⟩ T S [(x,.fp cs)] [] (v) []:=⟨.load_fp TAg.h TSize.h h,(.cons hx .nil),.nil⟩
theorem load{ag:Bool}{a b:Nat}[TAg P t ag][TSize P t n](hx:Rd c T x (.ptr X a b))(hSp:At S p (X,.row t' sz l))(hi:l[a]?=some e)(h:B1 e.cells b n ag=some v):Stp c P ⟨dst,.load t x,ty,pos,after,g⟩ T S [(x,.ptr X a b)] [(p,(X,.row t' sz l))] (v) []:=⟨.load TAg.h TSize.h hi h,(.cons hx .nil),(.cons hSp .nil)⟩
theorem store{a b:Nat}[TSize P t n](hx:Rd c T x (.ptr X a b))(hy:Rd c T y (v))(hSp:At S p (X,.row t' sz l))(hi:l[a]?=some e)(h:DY e b n v=true):Stp c P ⟨dst,.store t x y,ty,pos,after,g⟩ T S [(x,.ptr X a b),(y,v)] [(p,(X,.row t' sz l))] (.dead) [(p,(X,.row t' sz (l.set a (BK e b v))))]:=⟨.store TSize.h hi h,(.cons hx (.cons hy .nil)),(.cons hSp .nil)⟩
theorem fieldF{f off:Nat}{ft:TypeId}[TFl P t f off ft][TSize P ft (n+1)](hx:Rd c T x (.fp cs))(h:Fi cs=true):Stp c P ⟨dst,.fieldAddr t x f,ty,pos,after,g⟩ T S [(x,.fp cs)] [] (.fp (cs.drop off)) []:=⟨.fieldAddr_fp TFl.h TSize.h h,(.cons hx .nil),.nil⟩
theorem fieldA{f off a b:Nat}{ft:TypeId}[TFl P t f off ft][TSize P ft (n+1)](hx:Rd c T x (.ptr X a b))(hSp:At S p (X,.row t' sz l))(hi:a<l.length):Stp c P ⟨dst,.fieldAddr t x f,ty,pos,after,g⟩ T S [(x,.ptr X a b)] [(p,(X,.row t' sz l))] (.ptr X a (b+off)) []:=⟨.fieldAddr TFl.h TSize.h hi,(.cons hx .nil),(.cons hSp .nil)⟩
theorem field{f off:Nat}{ft:TypeId}{ag:Bool}[TFl P t f off ft][TAg P ft ag][TSize P ft n](hx:Rd c T x (.agg cs))(h:B1 cs off n ag=some v):Stp c P ⟨dst,.field t x f,ty,pos,after,g⟩ T S [(x,.agg cs)] [] (v) []:=⟨.field TFl.h TAg.h TSize.h h,(.cons hx .nil),.nil⟩
theorem idx{off m a b:Nat}[TEl P t te][TSize P te sz](hx:Rd c T x (.sl X off m))(hy:Rd c T y (.prim (.int k i)))(hSp:At S p (X,.row t' sz l))(hq:i=(a:Int))(ha:a<m)(hb:off+a=b):Stp c P ⟨dst,.indexAddr t x y,ty,pos,after,g⟩ T S [(x,.sl X off m),(y,.prim (.int k i))] [(p,(X,.row t' sz l))] (.ptr X b 0) []:=⟨.indexAddr TEl.h TSize.h hq ha hb,(.cons hx (.cons hy .nil)),(.cons hSp .nil)⟩
theorem idxL{a:Nat}[TEl P t te][TSize P te sz](hx:Rd c T x (.lst false t' sz l))(hy:Rd c T y (.prim (.int k i)))(hq:i=(a:Int))(hi:l[a]?=some e):Stp c P ⟨dst,.indexAddr t x y,ty,pos,after,g⟩ T S [(x,.lst false t' sz l),(y,.prim (.int k i))] [] (.fp e.cells) []:=⟨.indexAddr_lst TEl.h TSize.h hq hi,(.cons hx (.cons hy .nil)),.nil⟩
theorem lenS{off m:Nat}[TEl P t te](hx:Rd c T x (.sl X off m)):Stp c P ⟨dst,.call ⟨.builtin .len,#[x],#[t]⟩,ty,pos,after,g⟩ T S [(x,.sl X off m)] [] (.prim (.int .i64 (m:Int))) []:=⟨.len_sl TEl.h,(.cons hx .nil),.nil⟩
theorem lenL[TEl P t te](hx:Rd c T x (.lst false t' sz l)):Stp c P ⟨dst,.call ⟨.builtin .len,#[x],#[t]⟩,ty,pos,after,g⟩ T S [(x,.lst false t' sz l)] [] (.prim (.int .i64 (l.length:Int))) []:=⟨.len_lst (o:=false) TEl.h,(.cons hx .nil),.nil⟩
theorem lenN[TEl P t te](hx:Rd c T x (.prim (.slice none 0 0))):Stp c P ⟨dst,.call ⟨.builtin .len,#[x],#[t]⟩,ty,pos,after,g⟩ T S [(x,.prim (.slice none 0 0))] [] (.prim (.int .i64 0)) []:=⟨.len_nil TEl.h,(.cons hx .nil),.nil⟩
theorem lenStr{s:List UInt8}[TSg P t](hx:Rd c T x (.prim (BT s))):Stp c P ⟨dst,.call ⟨.builtin .len,#[x],#[t]⟩,ty,pos,after,g⟩ T S [(x,.prim (BT s))] [] (.prim (.int .i64 (s.length:Int))) []:=⟨.len_str TSg.h,(.cons hx .nil),.nil⟩
theorem idxStr{s:List UInt8}{a:Nat}[TSg P t](hx:Rd c T x (.prim (BT s)))(hy:Rd c T y (.prim (.int k i)))(hq:i=(a:Int))(hi:a<s.length):Stp c P ⟨dst,.index t x y,ty,pos,after,g⟩ T S [(x,.prim (BT s)),(y,.prim (.int k i))] [] (.prim (.int .u8 ((s.getD a 0).toNat:Int))) []:=⟨.index_strD TSg.h hq hi,(.cons hx (.cons hy .nil)),.nil⟩
theorem nilF(hx:Rd c T x (.fp cs)):Stp c P ⟨dst,.nilCheck x,ty,pos,after,g⟩ T S [(x,.fp cs)] [] (.fp cs) []:=⟨.nilCheck_fp,(.cons hx .nil),.nil⟩
theorem nilA{a b:Nat}(hx:Rd c T x (.ptr X a b))(hSp:At S p (X,.row t' sz l))(hi:a<l.length):Stp c P ⟨dst,.nilCheck x,ty,pos,after,g⟩ T S [(x,.ptr X a b)] [(p,(X,.row t' sz l))] (.ptr X a b) []:=⟨.nilCheck hi,(.cons hx .nil),(.cons hSp .nil)⟩
theorem hi{off m a:Nat}[TEl P t te][TSize P te sz](hx:Rd c T x (.sl X off m))(hy:Rd c T y (.prim (.int k i)))(hSp:At S p (X,.row t' sz l))(hq:i=(a:Int))(ha:a<=m):Stp c P ⟨dst,.slice t x none (some y) none,ty,pos,after,g⟩ T S [(x,.sl X off m),(y,.prim (.int k i))] [(p,(X,.row t' sz l))] (.sl X off a) []:=⟨.slice_hi TEl.h TSize.h hq ha,(.cons hx (.cons hy .nil)),(.cons hSp .nil)⟩
theorem hiL{a:Nat}[TEl P t te][TSize P te sz](hx:Rd c T x (.lst false t' sz l))(hy:Rd c T y (.prim (.int k i)))(hq:i=(a:Int))(ha:a<=l.length):Stp c P ⟨dst,.slice t x none (some y) none,ty,pos,after,g⟩ T S [(x,.lst false t' sz l),(y,.prim (.int k i))] [] (.lst false t' sz (l.take a)) []:=⟨.slice_lst_hi TEl.h TSize.h hq ha,(.cons hx (.cons hy .nil)),.nil⟩
theorem loL{a:Nat}[TEl P t te][TSize P te sz](hx:Rd c T x (.lst false t' sz l))(hy:Rd c T y (.prim (.int k i)))(hq:i=(a:Int))(ha:a<=l.length):Stp c P ⟨dst,.slice t x (some y) none none,ty,pos,after,g⟩ T S [(x,.lst false t' sz l),(y,.prim (.int k i))] [] (.lst false t' sz (l.drop a)) []:=⟨.slice_lst_lo TEl.h TSize.h hq ha,(.cons hx (.cons hy .nil)),.nil⟩
theorem box(hx:Rd c T x (v))(hSp:At S p (X,.gone))(hs:v.stor=true):Stp c P ⟨dst,.box t x,ty,pos,after,g⟩ T S [(x,v)] [(p,(X,.gone))] (.ptr X 0 0) [(p,(X,.row t v.width [v]))]:=⟨.box hs,(.cons hx .nil),(.cons hSp .nil)⟩
theorem alloc{zl:List Value}{ag:Bool}[TZe P t zl][TAg P t ag](hSp:At S p (X,.gone))(h:ag=true\/zl.length=1):Stp c P ⟨dst,.alloc t,ty,pos,after,g⟩ T S [] [(p,(X,.gone))] (.ptr X 0 0) [(p,(X,.row t zl.length [zAV zl ag]))]:=⟨.alloc TZe.h h,.nil,(.cons hSp .nil)⟩
theorem app{m by_:Nat}[TRo P t te sz by_](hx:Rd c T x (.sl X 0 m))(hy:Rd c T y (.lst false t' sz ls))(hSq:At S q (Y,.gone))(hSp:At S p (X,.row te sz l))(hn:m=l.length)(hb:(l.length+ls.length)*by_<=140737488355328)(hm:l.length+ls.length<=maxLen)(hqp:q≠p):Stp c P ⟨dst,.call ⟨.builtin .append,#[x,y],#[t,t]⟩,ty,pos,after,g⟩ T S [(x,.sl X 0 m),(y,.lst false t' sz ls)] [(q,(Y,.gone)),(p,(X,.row te sz l))] (.sl Y 0 (m+ls.length)) [(q,(X,.used)),(p,(Y,.row te sz (l++ls)))]:=⟨.append_lst TRo.h hn hb hm hqp,(.cons hx (.cons hy .nil)),(.cons hSq (.cons hSp .nil))⟩
theorem make{k':IntKind}{zl:List Value}{ag:Bool}{m d by_:Nat}[TEl P t te][TZe P te zl][TSize P te sz][TAg P te ag][TBy P te by_](hx:Rd c T x (.prim (.int k i)))(hy:Rd c T y (.prim (.int k' j)))(hSp:At S p (X,.gone))(hzs:zl.length=sz)(hag:ag=true\/zl.length=1)(hq:i=(m:Int))(hq':j=(d:Int))(hnc:m<=d)(hb:by_*d<=281474976710656)(hc:d<=maxLen):Stp c P ⟨dst,.makeSlice t x y,ty,pos,after,g⟩ T S [(x,.prim (.int k i)),(y,.prim (.int k' j))] [(p,(X,.gone))] (.sl X 0 m) [(p,(X,.row te sz (List.replicate m (zAV zl ag))))]:=⟨.makeSlice TEl.h TZe.h TSize.h hzs hag TBy.h hq hq' hnc hb hc,(.cons hx (.cons hy .nil)),(.cons hSp .nil)⟩
theorem NZ{f:FuncId}{ats:Array TypeId}{r:AV}(h:PS P f [] r)(ht:AY []=true):Stp c P ⟨dst,.call ⟨.value (.func f),#[],ats⟩,ty,pos,after,g⟩ T S [] [] r.frz []:=⟨.call (xs:=[]) h ht,.nil,.nil⟩
theorem callF0{f:FuncId}{ats:Array TypeId}{r r':AV}(h:PS P f [] r)(ht:AY []=true)(hf:r.frz=r'):Stp c P ⟨dst,.call ⟨.value (.func f),#[],ats⟩,ty,pos,after,g⟩ T S [] [] r' []:=hf▸NZ h ht
theorem build0{zl:List Value}{pl:List (Nat×Nat)}[TSt P t zl pl](hf:CB pl (zl.map .prim) []=some cs):Stp c P ⟨dst,.build t #[],ty,pos,after,g⟩ T S [] [] (.agg cs) []:=⟨.build (ps:=[]) TSt.h hf,.nil,.nil⟩
theorem call1{x0:Operand}{v0:AV}{f:FuncId}{ats:Array TypeId}{r:AV}(h0:Rd c T x0 v0)(h:PS P f [v0] r)(ht:AY [(x0,v0)]=true):Stp c P ⟨dst,.call ⟨.value (.func f),#[x0],ats⟩,ty,pos,after,g⟩ T S [(x0,v0)] [] r.frz []:=⟨.call (xs:=[(x0,v0)]) h ht,(.cons h0 .nil),.nil⟩
theorem callF1{x0:Operand}{v0:AV}{f:FuncId}{ats:Array TypeId}{r r':AV}(h0:Rd c T x0 v0)(h:PS P f [v0] r)(ht:AY [(x0,v0)]=true)(hf:r.frz=r'):Stp c P ⟨dst,.call ⟨.value (.func f),#[x0],ats⟩,ty,pos,after,g⟩ T S [(x0,v0)] [] r' []:=hf▸call1 h0 h ht
theorem build1{x0:Operand}{v0:AV}{j0:Nat}{zl:List Value}{pl:List (Nat×Nat)}[TSt P t zl pl](h0:Rd c T x0 v0)(hf:CB pl (zl.map .prim) [(j0,v0)]=some cs):Stp c P ⟨dst,.build t #[(j0,x0)],ty,pos,after,g⟩ T S [(x0,v0)] [] (.agg cs) []:=⟨.build (ps:=[(j0,x0,v0)]) TSt.h hf,(.cons h0 .nil),.nil⟩
theorem lit1{x0:Operand}{v0:AV}{j0:Nat}{zl:List Value}{ag:Bool}{m:Nat}[TEl P t te][TZe P te zl][TSize P te sz][TAg P te ag](h0:Rd c T x0 v0)(hS:At S p (X,.gone))(hzs:zl.length=sz)(hag:ag=true\/zl.length=1)(hn:m*sz<=16777216)(hpos:0<m*sz)(hf:Bi sz (List.replicate m (zAV zl ag)) [(j0,v0)]=some l):Stp c P ⟨dst,.buildSlice t m #[(j0,x0)],ty,pos,after,g⟩ T S [(x0,v0)] [(p,(X,.gone))] (.sl X 0 m) [(p,(X,.row te sz l))]:=⟨.buildSlice (ps:=[(j0,x0,v0)]) TEl.h TZe.h TSize.h hzs hag hn hpos hf,(.cons h0 .nil),.cons hS .nil⟩
theorem func1{x0:Operand}{v0:AV}{f:FuncId}(h0:Rd c T x0 v0)(hs:BN [v0]=true):Stp c P ⟨dst,.makeFunc (.func f) #[] #[x0],ty,pos,after,g⟩ T S [(x0,v0)] [] (.fn f [v0]) []:=⟨.makeFunc (xs:=[(x0,v0)]) hs,(.cons h0 .nil),.nil⟩
theorem call2{x0 x1:Operand}{v0 v1:AV}{f:FuncId}{ats:Array TypeId}{r:AV}(h0:Rd c T x0 v0)(h1:Rd c T x1 v1)(h:PS P f [v0,v1] r)(ht:AY [(x0,v0),(x1,v1)]=true):Stp c P ⟨dst,.call ⟨.value (.func f),#[x0,x1],ats⟩,ty,pos,after,g⟩ T S [(x0,v0),(x1,v1)] [] r.frz []:=⟨.call (xs:=[(x0,v0),(x1,v1)]) h ht,(.cons h0 (.cons h1 .nil)),.nil⟩
theorem callF2{x0 x1:Operand}{v0 v1:AV}{f:FuncId}{ats:Array TypeId}{r r':AV}(h0:Rd c T x0 v0)(h1:Rd c T x1 v1)(h:PS P f [v0,v1] r)(ht:AY [(x0,v0),(x1,v1)]=true)(hf:r.frz=r'):Stp c P ⟨dst,.call ⟨.value (.func f),#[x0,x1],ats⟩,ty,pos,after,g⟩ T S [(x0,v0),(x1,v1)] [] r' []:=hf▸call2 h0 h1 h ht
theorem build2{x0 x1:Operand}{v0 v1:AV}{j0 j1:Nat}{zl:List Value}{pl:List (Nat×Nat)}[TSt P t zl pl](h0:Rd c T x0 v0)(h1:Rd c T x1 v1)(hf:CB pl (zl.map .prim) [(j0,v0),(j1,v1)]=some cs):Stp c P ⟨dst,.build t #[(j0,x0),(j1,x1)],ty,pos,after,g⟩ T S [(x0,v0),(x1,v1)] [] (.agg cs) []:=⟨.build (ps:=[(j0,x0,v0),(j1,x1,v1)]) TSt.h hf,(.cons h0 (.cons h1 .nil)),.nil⟩
theorem func2{x0 x1:Operand}{v0 v1:AV}{f:FuncId}(h0:Rd c T x0 v0)(h1:Rd c T x1 v1)(hs:BN [v0,v1]=true):Stp c P ⟨dst,.makeFunc (.func f) #[] #[x0,x1],ty,pos,after,g⟩ T S [(x0,v0),(x1,v1)] [] (.fn f [v0,v1]) []:=⟨.makeFunc (xs:=[(x0,v0),(x1,v1)]) hs,(.cons h0 (.cons h1 .nil)),.nil⟩
theorem NY{x0 x1 x2:Operand}{v0 v1 v2:AV}{f:FuncId}{ats:Array TypeId}{r:AV}(h0:Rd c T x0 v0)(h1:Rd c T x1 v1)(h2:Rd c T x2 v2)(h:PS P f [v0,v1,v2] r)(ht:AY [(x0,v0),(x1,v1),(x2,v2)]=true):Stp c P ⟨dst,.call ⟨.value (.func f),#[x0,x1,x2],ats⟩,ty,pos,after,g⟩ T S [(x0,v0),(x1,v1),(x2,v2)] [] r.frz []:=⟨.call (xs:=[(x0,v0),(x1,v1),(x2,v2)]) h ht,(.cons h0 (.cons h1 (.cons h2 .nil))),.nil⟩
theorem callF3{x0 x1 x2:Operand}{v0 v1 v2:AV}{f:FuncId}{ats:Array TypeId}{r r':AV}(h0:Rd c T x0 v0)(h1:Rd c T x1 v1)(h2:Rd c T x2 v2)(h:PS P f [v0,v1,v2] r)(ht:AY [(x0,v0),(x1,v1),(x2,v2)]=true)(hf:r.frz=r'):Stp c P ⟨dst,.call ⟨.value (.func f),#[x0,x1,x2],ats⟩,ty,pos,after,g⟩ T S [(x0,v0),(x1,v1),(x2,v2)] [] r' []:=hf▸NY h0 h1 h2 h ht
theorem build3{x0 x1 x2:Operand}{v0 v1 v2:AV}{j0 j1 j2:Nat}{zl:List Value}{pl:List (Nat×Nat)}[TSt P t zl pl](h0:Rd c T x0 v0)(h1:Rd c T x1 v1)(h2:Rd c T x2 v2)(hf:CB pl (zl.map .prim) [(j0,v0),(j1,v1),(j2,v2)]=some cs):Stp c P ⟨dst,.build t #[(j0,x0),(j1,x1),(j2,x2)],ty,pos,after,g⟩ T S [(x0,v0),(x1,v1),(x2,v2)] [] (.agg cs) []:=⟨.build (ps:=[(j0,x0,v0),(j1,x1,v1),(j2,x2,v2)]) TSt.h hf,(.cons h0 (.cons h1 (.cons h2 .nil))),.nil⟩
theorem func3{x0 x1 x2:Operand}{v0 v1 v2:AV}{f:FuncId}(h0:Rd c T x0 v0)(h1:Rd c T x1 v1)(h2:Rd c T x2 v2)(hs:BN [v0,v1,v2]=true):Stp c P ⟨dst,.makeFunc (.func f) #[] #[x0,x1,x2],ty,pos,after,g⟩ T S [(x0,v0),(x1,v1),(x2,v2)] [] (.fn f [v0,v1,v2]) []:=⟨.makeFunc (xs:=[(x0,v0),(x1,v1),(x2,v2)]) hs,(.cons h0 (.cons h1 (.cons h2 .nil))),.nil⟩
theorem build4{x0 x1 x2 x3:Operand}{v0 v1 v2 v3:AV}{j0 j1 j2 j3:Nat}{zl:List Value}{pl:List (Nat×Nat)}[TSt P t zl pl](h0:Rd c T x0 v0)(h1:Rd c T x1 v1)(h2:Rd c T x2 v2)(h3:Rd c T x3 v3)(hf:CB pl (zl.map .prim) [(j0,v0),(j1,v1),(j2,v2),(j3,v3)]=some cs):Stp c P ⟨dst,.build t #[(j0,x0),(j1,x1),(j2,x2),(j3,x3)],ty,pos,after,g⟩ T S [(x0,v0),(x1,v1),(x2,v2),(x3,v3)] [] (.agg cs) []:=⟨.build (ps:=[(j0,x0,v0),(j1,x1,v1),(j2,x2,v2),(j3,x3,v3)]) TSt.h hf,(.cons h0 (.cons h1 (.cons h2 (.cons h3 .nil)))),.nil⟩
theorem func4{x0 x1 x2 x3:Operand}{v0 v1 v2 v3:AV}{f:FuncId}(h0:Rd c T x0 v0)(h1:Rd c T x1 v1)(h2:Rd c T x2 v2)(h3:Rd c T x3 v3)(hs:BN [v0,v1,v2,v3]=true):Stp c P ⟨dst,.makeFunc (.func f) #[] #[x0,x1,x2,x3],ty,pos,after,g⟩ T S [(x0,v0),(x1,v1),(x2,v2),(x3,v3)] [] (.fn f [v0,v1,v2,v3]) []:=⟨.makeFunc (xs:=[(x0,v0),(x1,v1),(x2,v2),(x3,v3)]) hs,(.cons h0 (.cons h1 (.cons h2 (.cons h3 .nil)))),.nil⟩
theorem build5{x0 x1 x2 x3 x4:Operand}{v0 v1 v2 v3 v4:AV}{j0 j1 j2 j3 j4:Nat}{zl:List Value}{pl:List (Nat×Nat)}[TSt P t zl pl](h0:Rd c T x0 v0)(h1:Rd c T x1 v1)(h2:Rd c T x2 v2)(h3:Rd c T x3 v3)(h4:Rd c T x4 v4)(hf:CB pl (zl.map .prim) [(j0,v0),(j1,v1),(j2,v2),(j3,v3),(j4,v4)]=some cs):Stp c P ⟨dst,.build t #[(j0,x0),(j1,x1),(j2,x2),(j3,x3),(j4,x4)],ty,pos,after,g⟩ T S [(x0,v0),(x1,v1),(x2,v2),(x3,v3),(x4,v4)] [] (.agg cs) []:=⟨.build (ps:=[(j0,x0,v0),(j1,x1,v1),(j2,x2,v2),(j3,x3,v3),(j4,x4,v4)]) TSt.h hf,(.cons h0 (.cons h1 (.cons h2 (.cons h3 (.cons h4 .nil))))),.nil⟩
theorem func5{x0 x1 x2 x3 x4:Operand}{v0 v1 v2 v3 v4:AV}{f:FuncId}(h0:Rd c T x0 v0)(h1:Rd c T x1 v1)(h2:Rd c T x2 v2)(h3:Rd c T x3 v3)(h4:Rd c T x4 v4)(hs:BN [v0,v1,v2,v3,v4]=true):Stp c P ⟨dst,.makeFunc (.func f) #[] #[x0,x1,x2,x3,x4],ty,pos,after,g⟩ T S [(x0,v0),(x1,v1),(x2,v2),(x3,v3),(x4,v4)] [] (.fn f [v0,v1,v2,v3,v4]) []:=⟨.makeFunc (xs:=[(x0,v0),(x1,v1),(x2,v2),(x3,v3),(x4,v4)]) hs,(.cons h0 (.cons h1 (.cons h2 (.cons h3 (.cons h4 .nil))))),.nil⟩
theorem build6{x0 x1 x2 x3 x4 x5:Operand}{v0 v1 v2 v3 v4 v5:AV}{j0 j1 j2 j3 j4 j5:Nat}{zl:List Value}{pl:List (Nat×Nat)}[TSt P t zl pl](h0:Rd c T x0 v0)(h1:Rd c T x1 v1)(h2:Rd c T x2 v2)(h3:Rd c T x3 v3)(h4:Rd c T x4 v4)(h5:Rd c T x5 v5)(hf:CB pl (zl.map .prim) [(j0,v0),(j1,v1),(j2,v2),(j3,v3),(j4,v4),(j5,v5)]=some cs):Stp c P ⟨dst,.build t #[(j0,x0),(j1,x1),(j2,x2),(j3,x3),(j4,x4),(j5,x5)],ty,pos,after,g⟩ T S [(x0,v0),(x1,v1),(x2,v2),(x3,v3),(x4,v4),(x5,v5)] [] (.agg cs) []:=⟨.build (ps:=[(j0,x0,v0),(j1,x1,v1),(j2,x2,v2),(j3,x3,v3),(j4,x4,v4),(j5,x5,v5)]) TSt.h hf,(.cons h0 (.cons h1 (.cons h2 (.cons h3 (.cons h4 (.cons h5 .nil)))))),.nil⟩
theorem func6{x0 x1 x2 x3 x4 x5:Operand}{v0 v1 v2 v3 v4 v5:AV}{f:FuncId}(h0:Rd c T x0 v0)(h1:Rd c T x1 v1)(h2:Rd c T x2 v2)(h3:Rd c T x3 v3)(h4:Rd c T x4 v4)(h5:Rd c T x5 v5)(hs:BN [v0,v1,v2,v3,v4,v5]=true):Stp c P ⟨dst,.makeFunc (.func f) #[] #[x0,x1,x2,x3,x4,x5],ty,pos,after,g⟩ T S [(x0,v0),(x1,v1),(x2,v2),(x3,v3),(x4,v4),(x5,v5)] [] (.fn f [v0,v1,v2,v3,v4,v5]) []:=⟨.makeFunc (xs:=[(x0,v0),(x1,v1),(x2,v2),(x3,v3),(x4,v4),(x5,v5)]) hs,(.cons h0 (.cons h1 (.cons h2 (.cons h3 (.cons h4 (.cons h5 .nil)))))),.nil⟩
theorem build7{x0 x1 x2 x3 x4 x5 x6:Operand}{v0 v1 v2 v3 v4 v5 v6:AV}{j0 j1 j2 j3 j4 j5 j6:Nat}{zl:List Value}{pl:List (Nat×Nat)}[TSt P t zl pl](h0:Rd c T x0 v0)(h1:Rd c T x1 v1)(h2:Rd c T x2 v2)(h3:Rd c T x3 v3)(h4:Rd c T x4 v4)(h5:Rd c T x5 v5)(h6:Rd c T x6 v6)(hf:CB pl (zl.map .prim) [(j0,v0),(j1,v1),(j2,v2),(j3,v3),(j4,v4),(j5,v5),(j6,v6)]=some cs):Stp c P ⟨dst,.build t #[(j0,x0),(j1,x1),(j2,x2),(j3,x3),(j4,x4),(j5,x5),(j6,x6)],ty,pos,after,g⟩ T S [(x0,v0),(x1,v1),(x2,v2),(x3,v3),(x4,v4),(x5,v5),(x6,v6)] [] (.agg cs) []:=⟨.build (ps:=[(j0,x0,v0),(j1,x1,v1),(j2,x2,v2),(j3,x3,v3),(j4,x4,v4),(j5,x5,v5),(j6,x6,v6)]) TSt.h hf,(.cons h0 (.cons h1 (.cons h2 (.cons h3 (.cons h4 (.cons h5 (.cons h6 .nil))))))),.nil⟩
theorem func7{x0 x1 x2 x3 x4 x5 x6:Operand}{v0 v1 v2 v3 v4 v5 v6:AV}{f:FuncId}(h0:Rd c T x0 v0)(h1:Rd c T x1 v1)(h2:Rd c T x2 v2)(h3:Rd c T x3 v3)(h4:Rd c T x4 v4)(h5:Rd c T x5 v5)(h6:Rd c T x6 v6)(hs:BN [v0,v1,v2,v3,v4,v5,v6]=true):Stp c P ⟨dst,.makeFunc (.func f) #[] #[x0,x1,x2,x3,x4,x5,x6],ty,pos,after,g⟩ T S [(x0,v0),(x1,v1),(x2,v2),(x3,v3),(x4,v4),(x5,v5),(x6,v6)] [] (.fn f [v0,v1,v2,v3,v4,v5,v6]) []:=⟨.makeFunc (xs:=[(x0,v0),(x1,v1),(x2,v2),(x3,v3),(x4,v4),(x5,v5),(x6,v6)]) hs,(.cons h0 (.cons h1 (.cons h2 (.cons h3 (.cons h4 (.cons h5 (.cons h6 .nil))))))),.nil⟩
end W
end
end
section
theorem HO{Zr:Zs}{z':AA×List Nat}:∀{S:List AA} {p:Nat} {e:AA},S[p]?=some e->Zr.map (·.1)=S.eraseIdx p->∃Z2:Zs,Z2.Perm (z'::Zr)/\Z2.map (·.1)=S.set p z'.1
 |[],p,e,h,_=>by simp at h
 |a::S,0,e,h,hm=>⟨z'::Zr,.refl _,by simpa using hm⟩
 |a::S,p+1,e,h,hm=>by
  simp only[List.eraseIdx_cons_succ]at hm;cases Zr with
  |nil=>simp at hm
  |cons zr Zr=>
   simp only[List.map_cons,List.cons.injEq]at hm;obtain⟨Z0,h1,h2⟩:=HO (Zr:=Zr) (z':=z') (S:=S) (p:=p) (e:=e) (by simpa using h) hm.2;exact⟨zr::Z0,(h1.cons zr).trans (List.Perm.swap ..),by simp[h2,hm.1]⟩
section
variable {P:Program}{dst:Option Tmp}{f:FuncId}{xs:List (Operand×AV)}{ats:Array TypeId}{ty:TypeId}{pos:String}{after:Array Edge}{g:Option (Nat×Bool)}{X p:Nat}{o o':AO}{r:AV}
def PO(P:Program)(f:FuncId)(args:List AV)(X:Nat)(o:AO)(r:AV)(o':AO):Prop:=Spec P f args [(X,o)] λr' S'=>r'=r/\S'=[(X,o')]
theorem C4(h:PO P f (xs.map (·.2)) X o r o')(ht:AY xs=true:=by rfl):OpT P ⟨dst,.call ⟨.value (.func f),(xs.map (·.1)).toArray,ats⟩,ty,pos,after,g⟩ xs [(p,(X,o))] r.frz [(p,(X,o'))]:=by
 intro nt m0 T S a w hx hS hd hr;obtain⟨m,N,Z,rfl,h2,h3,h4⟩:=hr;have h2':Z.map (·.1)=S:=h2;have hSp:=hS (p,(X,o)) (by simp);simp only at hSp;have hSp2:=hSp;rw[<-h2',List.getElem?_map]at hSp2;cases hz:Z[p]? with
 |none=>rw[hz]at hSp2;cases hSp2
 |some z=>
  rw[hz]at hSp2;simp only[Option.map_some,Option.some.injEq]at hSp2;have G1:=h3.perm (Ev hz);refine DS (λ_=>rfl) h.fn ?_;refine(h.run (S.eraseIdx p) m N (z::Z.eraseIdx p) _ (by simp[hSp2,Dv,h2']) G1.self (by have:=Cj (Bc ht) λq hq=>h4.ev (hx q hq);simpa[Function.comp_def]using this)).mono ?_;rintro e w' ⟨v,r',S',m',N',Z',br,rfl,rfl,hm,G',hv,rfl,rfl⟩;obtain⟨G2,hle⟩:=Good.freeze (ex:=br) (ex':=[]) (by simpa using h3.after G') _ rfl;cases Z' with
  |nil=>simp at hm
  |cons z' Zr=>
   simp only[List.map_cons,List.cons_append,List.nil_append,List.cons.injEq]at hm;obtain⟨Z2,h5,h6⟩:=HO (z':=z') hSp hm.2;refine⟨v,rfl,{m' with F:=λb=>m'.F b\/b∈br},N',Z2,rfl,?_,G2.perm h5.symm,((h4.mono G'.le).mono hle).put hd (VV.frz hle (λb hb=>⟨.inr hb,rfl⟩) hv)⟩;simp only[AM];rw[h6,hm.1]
end
theorem EU{P:Program}{t:Nat}{Sf S':List AA}{Q:AV->List AA->Prop}{st:St}{a:AV}(h:AQ st.T t=some a)(ha:ntup a=true)(hS:(S'++Sf).Sublist st.S)(hQ:Q a S'):Ends P [.tmp t] Sf Q st:=
 ⟨[a],[a],st.S,S',.cons (.tmp h) ha .nil,.cons (.cell .same) .nil,hS,hQ⟩
namespace W
variable {P:Program}{dst:Option Tmp}{ty:TypeId}{pos:String}{after:Array Edge}{g:Option (Nat×Bool)}{T:List (Nat×AV)}{S:List AA}{c:Option (List Bool)}{X p:Nat}{o o':AO}{r r':AV}{f:FuncId}{ats:Array TypeId}
theorem callO1{x0:Operand}{v0:AV}(h0:Rd c T x0 v0)(hSp:At S p (X,o))(h:PO P f [v0] X o r o')(ht:AY [(x0,v0)]=true)(hf:r.frz=r'):Stp c P ⟨dst,.call ⟨.value (.func f),#[x0],ats⟩,ty,pos,after,g⟩ T S [(x0,v0)] [(p,(X,o))] r' [(p,(X,o'))]:=⟨hf▸C4 (xs:=[(x0,v0)]) h ht,(.cons h0 .nil),.cons hSp .nil⟩
theorem callO2{x0 x1:Operand}{v0 v1:AV}(h0:Rd c T x0 v0)(h1:Rd c T x1 v1)(hSp:At S p (X,o))(h:PO P f [v0,v1] X o r o')(ht:AY [(x0,v0),(x1,v1)]=true)(hf:r.frz=r'):Stp c P ⟨dst,.call ⟨.value (.func f),#[x0,x1],ats⟩,ty,pos,after,g⟩ T S [(x0,v0),(x1,v1)] [(p,(X,o))] r' [(p,(X,o'))]:=⟨hf▸C4 (xs:=[(x0,v0),(x1,v1)]) h ht,(.cons h0 (.cons h1 .nil)),.cons hSp .nil⟩
theorem callO4{x0 x1 x2 x3:Operand}{v0 v1 v2 v3:AV}(h0:Rd c T x0 v0)(h1:Rd c T x1 v1)(h2:Rd c T x2 v2)(h3:Rd c T x3 v3)(hSp:At S p (X,o))(h:PO P f [v0,v1,v2,v3] X o r o')(ht:AY [(x0,v0),(x1,v1),(x2,v2),(x3,v3)]=true)(hf:r.frz=r'):Stp c P ⟨dst,.call ⟨.value (.func f),#[x0,x1,x2,x3],ats⟩,ty,pos,after,g⟩ T S [(x0,v0),(x1,v1),(x2,v2),(x3,v3)] [(p,(X,o))] r' [(p,(X,o'))]:=⟨hf▸C4 (xs:=[(x0,v0),(x1,v1),(x2,v2),(x3,v3)]) h ht,(.cons h0 (.cons h1 (.cons h2 (.cons h3 .nil)))),.cons hSp .nil⟩
theorem callO5{x0 x1 x2 x3 x4:Operand}{v0 v1 v2 v3 v4:AV}(h0:Rd c T x0 v0)(h1:Rd c T x1 v1)(h2:Rd c T x2 v2)(h3:Rd c T x3 v3)(h4:Rd c T x4 v4)(hSp:At S p (X,o))(h:PO P f [v0,v1,v2,v3,v4] X o r o')(ht:AY [(x0,v0),(x1,v1),(x2,v2),(x3,v3),(x4,v4)]=true)(hf:r.frz=r'):Stp c P ⟨dst,.call ⟨.value (.func f),#[x0,x1,x2,x3,x4],ats⟩,ty,pos,after,g⟩ T S [(x0,v0),(x1,v1),(x2,v2),(x3,v3),(x4,v4)] [(p,(X,o))] r' [(p,(X,o'))]:=⟨hf▸C4 (xs:=[(x0,v0),(x1,v1),(x2,v2),(x3,v3),(x4,v4)]) h ht,(.cons h0 (.cons h1 (.cons h2 (.cons h3 (.cons h4 .nil))))),.cons hSp .nil⟩
end W
end
section
variable {ro:Option Nat}
mutual
inductive Ic(B:AV->AV->Prop):AV->AV->Prop
 |same {a:AV}:Ic B a a
 |base {a b:AV} (h:B a b):Ic B a b
 |agg {as bs:List AV} (h:Ics B as bs):Ic B (.agg as) (.agg bs)
inductive Ics(B:AV->AV->Prop):List AV->List AV->Prop
 |nil:Ics B [] []
 |cons {a b:AV} {as bs:List AV} (h:Ic B a b) (k:Ics B as bs):Ics B (a::as) (b::bs)
end
inductive IceB(X:Nat)(t:TypeId)(sz:Nat)(l:List AV):AV->AV->Prop
 |sl {off n:Nat} (h:off+n<=l.length):IceB X t sz l (.sl X off n) (.lst false t sz (AV.frzs ((l.drop off).take n)))
inductive AdB(X:Nat):AV->AV->Prop
 |nil:AdB X (.prim (.slice none 0 0)) (.sl X 0 0)
section
variable {X:Nat}{t:TypeId}{sz:Nat}{l:List AV}{m m':Mem}{B:AV->AV->Prop}
def Wd1(B:AV->AV->Prop):Prop:=∀a b,B a b->b.width=a.width
def Vc1(B:AV->AV->Prop)(m m':Mem):Prop:=∀a b,B a b->∀c bs,VC m a c bs->VC m' b c bs
theorem IceB.wd1:Wd1 (IceB X t sz l):=λa b h=>by cases h;rfl
theorem AdB.wd1:Wd1 (AdB X):=λa b h=>by cases h;rfl
theorem IceB.vc1(hv:∀off n c,off+n<=l.length->VC m (.sl X off n) c []->VC m' (.lst false t sz (AV.frzs ((l.drop off).take n))) c []):Vc1 (IceB X t sz l) m m':=λa b h c bs k=>by
 cases h with
 |sl h=>
  obtain rfl:=k.1;exact hv _ _ _ h k
theorem AdB.vc1(hv:VC m' (.sl X 0 0) [.slice none 0 0] []):Vc1 (AdB X) m m':=λa b h c bs k=>by
 cases h with
 |nil=>
  obtain⟨⟨rfl,_⟩,rfl⟩:=k;exact hv
mutual
theorem Ic.width(hB:Wd1 B):{a b:AV}->Ic B a b->b.width=a.width
 |_,_,.same=>rfl
 |_,_,.base h=>hB _ _ h
 |_,_,.agg h=>Ics.widths hB h
theorem Ics.widths(hB:Wd1 B):{a b:List AV}->Ics B a b->AV.widths b=AV.widths a
 |_,_,.nil=>rfl
 |_,_,.cons h k=>by simp only[AV.widths,Ic.width hB h,Ics.widths hB k]
end
mutual
theorem Ic.vc(hle:m.Le m')(hB:Vc1 B m m')(hw:m'.w=m.w):{a b:AV}->Ic B a b->{c:List Value}->{bs:List Nat}->VC m a c bs->VC m' b c bs
 |a,_,.same,_,_,k=>VC.mono hle a (λ_ _=>by rw[hw]) k
 |_,_,.base h,_,_,k=>hB _ _ h _ _ k
 |_,_,.agg h,_,_,k=>Ics.vcs hle hB hw h k
theorem Ics.vcs(hle:m.Le m')(hB:Vc1 B m m')(hw:m'.w=m.w):{a b:List AV}->Ics B a b->{c:List Value}->{bs:List Nat}->VCs m a c bs->VCs m' b c bs
 |_,_,.nil,_,_,k=>k
 |_,_,.cons h k,_,_,⟨c1,c2,b1,b2,e1,e2,k1,k2⟩=>⟨c1,c2,b1,b2,e1,e2,Ic.vc hle hB hw h k1,Ics.vcs hle hB hw k k2⟩
end
theorem Ics.len{a b:List AV}(h:Ics B a b):b.length=a.length:=by
 induction a generalizing b with
 |nil=>cases h;rfl
 |cons x a ih=>cases h with|cons h k=>simp[ih k]
theorem Ics.wd(hB:Wd1 B){a b:List AV}{n:Nat}(h:Ics B a b)(hw:∀e∈a,e.width=n):∀e∈b,e.width=n:=by
 induction a generalizing b with
 |nil=>cases h;intro e he;cases he
 |cons x a ih=>
  cases h with
  |cons h k=>
   intro e he;rcases List.mem_cons.1 he with rfl|he
   ·rw[h.width hB];exact hw x (by simp)
   ·exact ih k (λe he=>hw e (by simp[he])) e he
theorem Ics.orel{Y:Nat}{t2:TypeId}{sz2:Nat}{l2 l2':List AV}{bs:List Nat}(hI:Ics B l2 l2')(hle:m.Le m')(hμ:∀L,m.μ Y=some L->m'.μ Y=some L)(hBw:Wd1 B)(hB:Vc1 B m m')(hw:m'.w=m.w)(h:ORel m Y (.row t2 sz2 l2) bs):ORel m' Y (.row t2 sz2 l2') bs:=by
 obtain⟨hU,L,h1,h2,h3⟩:=h;refine⟨hle.U _ hU,L,hμ L h1,h2,?_⟩;rcases h3 with⟨h4,rfl,h5⟩|⟨h4,arr,bs',h5,h6,h7,h8,h9,h10,h11⟩
 ·cases hI;exact .inl ⟨h4,rfl,h5⟩
 ·refine .inr ⟨h4,arr,bs',h5,by rw[hw];exact h6,h7,by rw[hI.len];exact h8,h9,hI.wd hBw h10,?_⟩
  rw[hI.len];exact Ics.vcs hle hB hw hI h11
theorem DR{m0:Mem}{N:Nat}{ex bs:List Nat}{A R:Zs}{Y:Nat}{o o':AO}(G:Good m0 m N (A++((Y,o),bs)::R) ex)(h:ORel m Y o' bs):Good m0 m N (A++((Y,o'),bs)::R) ex:=by
 have e1:Zs.own (A++((Y,o'),bs)::R)=Zs.own (A++((Y,o),bs)::R):=by simp[Zs.own]
 have e2:Zs.keys (A++((Y,o'),bs)::R)=Zs.keys (A++((Y,o),bs)::R):=by simp[Zs.keys]
 refine⟨λz hz=>?_,by rw[e1];exact G.own,by rw[e1];exact G.blk,G.frz,by rw[e2];exact G.keys,by rw[e2];exact G.keyN,G.usedN,G.le,G.os,G.tape,G.output,G.size⟩;rcases List.mem_append.1 hz with hz|hz
 ·exact G.obj z (by simp[hz])
 ·rcases List.mem_cons.1 hz with rfl|hz
  ·exact h
  ·exact G.obj z (by simp[hz])
theorem St.iceIn{nt:Nat}{st:St}{p q Y:Nat}{t2:TypeId}{sz2:Nat}{l2 l2':List AV}(hpq:p≠q)(hS:At st.S p (X,.row t sz l))(hq:At st.S q (Y,.row t2 sz2 l2))(hI:Ics (IceB X t sz l) l2 l2'):CS nt st λst'=>st'=⟨st.T,(st.S.set p (X,.used)).set q (Y,.row t2 sz2 l2')⟩:=by
 rintro m0 a w ⟨m,N,Z,rfl,h2,h3,h4⟩;obtain⟨bs,hz⟩:=hS.z h2;obtain⟨bs2,hz2⟩:=hq.z h2;obtain⟨R,hp1,hp2⟩:=C1 hpq hz hz2;have G0:=h3.perm hp1;obtain⟨m',hw,G',hle,hv,_⟩:=G0.iced;have hY:ORel m Y (.row t2 sz2 l2) bs2:=G0.obj ((Y,.row t2 sz2 l2),bs2) (by simp);have hY':ORel m' Y (.row t2 sz2 l2) bs2:=G'.obj ((Y,.row t2 sz2 l2),bs2) (by simp)
 have hμ:∀L,m.μ Y=some L->m'.μ Y=some L:=by
  intro L hL;obtain⟨_,L',h5,_⟩:=hY';have:=hle.μ Y L' hY.1 h5;rw[hL]at this;injection this with this
  rw[this];exact h5
 have G2:=DR (A:=[((X,AO.used),[])]) G' (hI.orel hle hμ IceB.wd1 (IceB.vc1 hv) hw hY);exact⟨⟨st.T,(st.S.set p (X,.used)).set q (Y,.row t2 sz2 l2')⟩,⟨m',N,(Z.set p ((X,.used),[])).set q ((Y,.row t2 sz2 l2'),bs2),hw,by rw[List.map_set,List.map_set,h2],G2.perm (hp2 _ _).symm,h4.mono hle⟩,rfl⟩
theorem St.adoptIn{nt:Nat}{st:St}{q Y:Nat}{t2:TypeId}{sz2:Nat}{l2:List AV}{l2':Nat->List AV}(t:TypeId)(sz:Nat)(hq:At st.S q (Y,.row t2 sz2 l2))(hI:∀X,Ics (AdB X) l2 (l2' X)):CS nt st λst'=>∃X,st'=⟨st.T,(X,.row t sz [])::st.S.set q (Y,.row t2 sz2 (l2' X))⟩:=by
 rintro m0 a w ⟨m,N,Z,rfl,h2,h3,h4⟩;obtain⟨bs2,hz2⟩:=hq.z h2;obtain⟨R,hp1,hp2⟩:=BF hz2;have G0:=h3.perm hp1;obtain⟨m',hw,G',hle,hv⟩:=G0.adopt t sz;have hY:ORel m Y (.row t2 sz2 l2) bs2:=G0.obj ((Y,.row t2 sz2 l2),bs2) (by simp);have hY':ORel m' Y (.row t2 sz2 l2) bs2:=G'.obj ((Y,.row t2 sz2 l2),bs2) (by simp)
 have hμ:∀L,m.μ Y=some L->m'.μ Y=some L:=by
  intro L hL;obtain⟨_,L',h5,_⟩:=hY';have:=hle.μ Y L' hY.1 h5;rw[hL]at this;injection this with this
  rw[this];exact h5
 have G2:=DR (A:=[((N,AO.row t sz []),[])]) G' ((hI N).orel hle hμ AdB.wd1 (AdB.vc1 hv) hw hY);exact⟨⟨st.T,(N,.row t sz [])::st.S.set q (Y,.row t2 sz2 (l2' N))⟩,⟨m',N+1,((N,.row t sz []),[])::Z.set q ((Y,.row t2 sz2 (l2' N)),bs2),hw,by rw[List.map_cons,List.map_set,h2],G2.perm ((hp2 _).symm.cons _),h4.mono hle⟩,N,rfl⟩
theorem AWP.adoptIn{P:Program}{nt:Nat}{c:Code}{Q:Exit->St->Prop}{T:List (Nat×AV)}{S:List AA}{q Y:Nat}{t2:TypeId}{sz2:Nat}{l2:List AV}{l2':Nat->List AV}(t:TypeId)(sz:Nat)(hq:At S q (Y,.row t2 sz2 l2))(hI:∀X,Ics (AdB X) l2 (l2' X))(k:∀X,AWP ro P nt c Q ⟨T,(X,.row t sz [])::S.set q (Y,.row t2 sz2 (l2' X))⟩):AWP ro P nt c Q ⟨T,S⟩:=
 .ghost (St.adoptIn (st:=⟨T,S⟩) t sz hq hI) λst' ⟨X,e⟩=>by subst e;exact k X
theorem AWP.iceIn{P:Program}{nt:Nat}{c:Code}{Q:Exit->St->Prop}{T:List (Nat×AV)}{S:List AA}{p q Y:Nat}{t2:TypeId}{sz2:Nat}{l2 l2':List AV}(hS:At S p (X,.row t sz l))(hq:At S q (Y,.row t2 sz2 l2))(hpq:Nat.beq p q=false)(hI:Ics (IceB X t sz l) l2 l2')(k:AWP ro P nt c Q ⟨T,(S.set p (X,.used)).set q (Y,.row t2 sz2 l2')⟩):AWP ro P nt c Q ⟨T,S⟩:=
 .ghost (St.iceIn (st:=⟨T,S⟩) (λe=>by subst e;simp at hpq) hS hq hI) λst' e=>by subst e;exact k
theorem AWP.ice{P:Program}{nt:Nat}{c:Code}{Q:Exit->St->Prop}{T:List (Nat×AV)}{S:List AA}{p d n:Nat}(hd:AQ T d=some (.sl X 0 n))(hS:At S p (X,.row t sz l))(hn:n=l.length)(k:AWP ro P nt c Q ⟨(d,.lst false t sz (AV.frzs l))::T,S.set p (X,.used)⟩):AWP ro P nt c Q ⟨T,S⟩:=
 .ghost (St.ice (st:=⟨T,S⟩) hd hS hn) λst' e=>by subst e;exact k
theorem AWP.adopt{P:Program}{nt:Nat}{c:Code}{Q:Exit->St->Prop}{T:List (Nat×AV)}{S:List AA}{d:Nat}(t:TypeId)(sz:Nat)(hd:AQ T d=some (.prim (.slice none 0 0)))(k:∀X,AWP ro P nt c Q ⟨(d,.sl X 0 0)::T,(X,.row t sz [])::S⟩):AWP ro P nt c Q ⟨T,S⟩:=
 .ghost (St.adopt (st:=⟨T,S⟩) t sz hd) λst' ⟨X,e⟩=>by subst e;exact k X
end
end
section
theorem F6{sz:Nat}:∀(xs:List (Nat×AV)) (l l':List AV),Bi sz l xs=some l' ->l'.length=l.length
 |[],l,l',h=>by injection h with h;rw[h]
 |(i,v)::r,l,l',h=>by
  unfold Bi at h;split at h
  ·cases h
  ·rw[F6 r _ _ h,List.length_set]
theorem Rel.sub{nt:Nat}{m0:Mem}{T:List (Nat×AV)}{S S':List AA}{a:Act}{w:World}(h:Rel nt m0 ⟨T,S⟩ a w)(k:S'.Sublist S):Rel nt m0 ⟨T,S'⟩ a w:=by
 obtain⟨m,N,Z,h1,h2,h3,h4⟩:=h;obtain⟨Z',hs,hm⟩:=Eq _ k h2;exact⟨m,N,Z',h1,hm,h3.sub hs,h4⟩
class Frz(a:AV)(b:outParam AV):Prop where h:a.frz=b
class Frzs(a:List AV)(b:outParam (List AV)):Prop where h:AV.frzs a=b
instance {u:Value}:Frz (.prim u) (.prim u):=⟨rfl⟩
instance {x o l:Nat}:Frz (.sl x o l) (.sl x o l):=⟨rfl⟩
instance {o:Bool}{t:TypeId}{sz:Nat}{l l':List AV}[h:Frzs l l']:Frz (.lst o t sz l) (.lst false t sz l'):=⟨by show AV.lst false t sz (AV.frzs l)=_;rw[h.h]⟩
instance {l l':List AV}[h:Frzs l l']:Frz (.agg l) (.agg l'):=⟨by show AV.agg (AV.frzs l)=_;rw[h.h]⟩
instance {l l':List AV}[h:Frzs l l']:Frz (.tup l) (.tup l'):=⟨by show AV.tup (AV.frzs l)=_;rw[h.h]⟩
instance:Frzs [] []:=⟨rfl⟩
instance {a b:AV}{l l':List AV}[h:Frz a b][k:Frzs l l']:Frzs (a::l) (b::l'):=⟨by show AV.frz a::AV.frzs l=_;rw[h.h,k.h]⟩
instance {α:Type}{f g:α->AV}{l:List α}[h:∀a,Frz (f a) (g a)]:Frzs (l.map f) (l.map g):=⟨by rw[B3,List.map_map];exact List.map_congr_left λa _=>(h a).h⟩
def over:List AV->List AV->List AV
 |w::ws,_::cs=>w::over ws cs
 |_,cs=>cs
def B5:List AV->Nat->List AV->List AV
 |cs,0,ws=>over ws cs
 |c::cs,k+1,ws=>c::B5 cs k ws
 |[],_+1,_=>[]
def CM:List (Nat×Nat)->Nat->Nat
 |(o,_)::_,0=>o
 |_::r,i+1=>CM r i
 |[],_=>0
def BZ(pl:List (Nat×Nat)):List AV->List (Nat×AV)->List AV
 |cs,[]=>cs
 |cs,(i,v)::r=>BZ pl (B5 cs (CM pl i) v.cells) r
def Mv:AV->Nat->AV->AV
 |.agg cs,k,v=>.agg (B5 cs k v.cells)
 |_,_,v=>v
theorem Aq{pl:List (Nat×Nat)}{l cs:List AV}{xs:List (Nat×AV)}(h:BZ pl l xs=cs)(k:CB pl l xs=some (BZ pl l xs)):CB pl l xs=some cs:=h▸k
theorem Lz{l l':List AV}{a b:Nat}{e v:AV}(h:l.set a (Mv e b v)=l')(k:BK e b v=Mv e b v):l.set a (BK e b v)=l':=k▸h
section
variable {P:Program}{dst:Option Tmp}{ty t te:TypeId}{pos:String}{after:Array Edge}{g:Option (Nat×Bool)}{sz:Nat}
theorem Bk{ps:List (Nat×Operand×AV)}{zl:List Value}{ag:Bool}{n:Nat}{l:List AV}(he:BM P t=some te)(hz:tZ P te=some zl)(hsz:tSz P te=some sz)(hzs:zl.length=sz)(hag:ag=true\/zl.length=1)(hn:n*sz<=16777216)(h0:0<n*sz)
  (hf:Bi sz (List.replicate n (zAV zl ag)) (ps.map λq=>(q.1,q.2.2))=some l):OpT P ⟨dst,.buildSlice t n (ps.map λq=>(q.1,q.2.1)).toArray,ty,pos,after,g⟩ (ps.map (·.2)) [] (.lst false te sz (AV.frzs l)) []:=by
 intro nt m0 T S a w hx hS hd hr;obtain⟨_,hr',X,rfl⟩:=St.reserve (nt:=nt) ⟨T,S⟩ m0 a w hr;have hl:n=l.length:=by rw[F6 _ _ _ hf,List.length_replicate]
 refine Oper.wp_mono (λa' w' h=>?_) (OpT.buildSlice (dst:=dst) (ty:=ty) (t:=t) (pos:=pos) (after:=after) (g:=g) (X:=X) (p:=0) he hz hsz hzs hag hn h0 hf nt m0 T ((X,.gone)::S) a w hx (by simp) hd hr');cases dst with
 |none=>exact Rel.sub h (.cons _ (.refl _))
 |some d=>
  obtain⟨_,h2,rfl⟩:=St.ice (nt:=nt) (st:=⟨AL T (some d) (.sl X 0 n),AM ((X,.gone)::S) [(0,(X,.row te sz l))]⟩) (d:=d) (n:=n) (p:=0) (X:=X) (t:=te) (sz:=sz) (l:=l) (by simp[AL,AZ]) .here hl m0 a' w' h;refine Rel.sub (EC h2 λe v he=>?_) (.cons _ (.refl _));simp only[AL,AZ]at he⊢;by_cases e':e=d
  ·simpa[e']using he
  ·simpa[e']using he
end
namespace W
theorem storeN{P:Program}{dst:Option Tmp}{ty t t':TypeId}{pos:String}{after:Array Edge}{g:Option (Nat×Bool)}{T:List (Nat×AV)}{S:List AA}{c:Option (List Bool)}{l l':List AV}{x y:Operand}{X p sz n a b:Nat}{e v:AV}[TSize P t n](hx:Rd c T x (.ptr X a b))(hy:Rd c T y v)(hSp:At S p (X,.row t' sz l))(hi:l[a]?=some e)(h:DY e b n v=true)(hl:l.set a (BK e b v)=l'):Stp c P ⟨dst,.store t x y,ty,pos,after,g⟩ T S [(x,.ptr X a b),(y,v)] [(p,(X,.row t' sz l))] .dead [(p,(X,.row t' sz l'))]:=hl▸W.store hx hy hSp hi h
theorem allocN{P:Program}{dst:Option Tmp}{ty t:TypeId}{pos:String}{after:Array Edge}{g:Option (Nat×Bool)}{T:List (Nat×AV)}{S:List AA}{c:Option (List Bool)}{X p:Nat}{zl:List Value}{ag:Bool}{a:AV}{n:Nat}[TZe P t zl][TAg P t ag](hSp:At S p (X,.gone))(h:ag=true\/zl.length=1)(hz:zAV zl ag=a)(hn:zl.length=n):Stp c P ⟨dst,.alloc t,ty,pos,after,g⟩ T S [] [(p,(X,.gone))] (.ptr X 0 0) [(p,(X,.row t n [a]))]:=hz▸hn▸W.alloc hSp h
theorem loadW{P:Program}{dst:Option Tmp}{ty t t':TypeId}{pos:String}{after:Array Edge}{g:Option (Nat×Bool)}{T:List (Nat×AV)}{S:List AA}{c:Option (List Bool)}{l:List AV}{x:Operand}{X p sz n a:Nat}{e:AV}[TAg P t true][TSize P t n](hx:Rd c T x (.ptr X a 0))(hSp:At S p (X,.row t' sz l))(hi:l[a]?=some e)(h:B1 e.cells 0 n true=some e):Stp c P ⟨dst,.load t x,ty,pos,after,g⟩ T S [(x,.ptr X a 0)] [(p,(X,.row t' sz l))] e []:=W.load hx hSp hi h
theorem loadFW{P:Program}{dst:Option Tmp}{ty t:TypeId}{pos:String}{after:Array Edge}{g:Option (Nat×Bool)}{T:List (Nat×AV)}{S:List AA}{c:Option (List Bool)}{x:Operand}{n:Nat}{e:AV}[TAg P t true][TSize P t n](hx:Rd c T x (.fp e.cells))(h:B1 e.cells 0 n true=some e):Stp c P ⟨dst,.load t x,ty,pos,after,g⟩ T S [(x,.fp e.cells)] [] e []:=W.loadF hx h
variable {P:Program}{dst:Option Tmp}{ty t te:TypeId}{pos:String}{after:Array Edge}{g:Option (Nat×Bool)}{sz:Nat}{T:List (Nat×AV)}{S:List AA}{c:Option (List Bool)}{l l':List AV}
theorem litF0{zl:List Value}{ag:Bool}[TEl P t te][TZe P te zl][TSize P te sz][TAg P te ag](hzs:zl.length=sz)(hag:ag=true\/zl.length=1)(hn:0*sz<=16777216)(hpos:0<0*sz)(hf:Bi sz (List.replicate 0 (zAV zl ag)) []=some [])[hz:Frzs [] l']:Stp c P ⟨dst,.buildSlice t 0 #[],ty,pos,after,g⟩ T S [] [] (.lst false te sz l') []:=⟨hz.h▸Bk (ps:=[]) TEl.h TZe.h TSize.h hzs hag hn hpos hf,.nil,.nil⟩
theorem litF1{x0:Operand}{v0:AV}{zl:List Value}{ag:Bool}[TEl P t te][TZe P te zl][TSize P te sz][TAg P te ag](h0:Rd c T x0 v0)(hzs:zl.length=sz)(hag:ag=true\/zl.length=1)(hn:1*sz<=16777216)(hpos:0<1*sz)(hf:Bi sz (List.replicate 1 (zAV zl ag)) [(0,v0)]=some [v0])[hz:Frzs [v0] l']:Stp c P ⟨dst,.buildSlice t 1 #[(0,x0)],ty,pos,after,g⟩ T S [(x0,v0)] [] (.lst false te sz l') []:=⟨hz.h▸Bk (ps:=[(0,x0,v0)]) TEl.h TZe.h TSize.h hzs hag hn hpos hf,(.cons h0 .nil),.nil⟩
theorem litF2{x0:Operand}{v0:AV}{x1:Operand}{v1:AV}{zl:List Value}{ag:Bool}[TEl P t te][TZe P te zl][TSize P te sz][TAg P te ag](h0:Rd c T x0 v0)(h1:Rd c T x1 v1)(hzs:zl.length=sz)(hag:ag=true\/zl.length=1)(hn:2*sz<=16777216)(hpos:0<2*sz)(hf:Bi sz (List.replicate 2 (zAV zl ag)) [(0,v0),(1,v1)]=some [v0,v1])[hz:Frzs [v0,v1] l']:Stp c P ⟨dst,.buildSlice t 2 #[(0,x0),(1,x1)],ty,pos,after,g⟩ T S [(x0,v0),(x1,v1)] [] (.lst false te sz l') []:=⟨hz.h▸Bk (ps:=[(0,x0,v0),(1,x1,v1)]) TEl.h TZe.h TSize.h hzs hag hn hpos hf,(.cons h0 (.cons h1 .nil)),.nil⟩
theorem litF3{x0:Operand}{v0:AV}{x1:Operand}{v1:AV}{x2:Operand}{v2:AV}{zl:List Value}{ag:Bool}[TEl P t te][TZe P te zl][TSize P te sz][TAg P te ag](h0:Rd c T x0 v0)(h1:Rd c T x1 v1)(h2:Rd c T x2 v2)(hzs:zl.length=sz)(hag:ag=true\/zl.length=1)(hn:3*sz<=16777216)(hpos:0<3*sz)(hf:Bi sz (List.replicate 3 (zAV zl ag)) [(0,v0),(1,v1),(2,v2)]=some [v0,v1,v2])[hz:Frzs [v0,v1,v2] l']:Stp c P ⟨dst,.buildSlice t 3 #[(0,x0),(1,x1),(2,x2)],ty,pos,after,g⟩ T S [(x0,v0),(x1,v1),(x2,v2)] [] (.lst false te sz l') []:=⟨hz.h▸Bk (ps:=[(0,x0,v0),(1,x1,v1),(2,x2,v2)]) TEl.h TZe.h TSize.h hzs hag hn hpos hf,(.cons h0 (.cons h1 (.cons h2 .nil))),.nil⟩
theorem litF4{x0:Operand}{v0:AV}{x1:Operand}{v1:AV}{x2:Operand}{v2:AV}{x3:Operand}{v3:AV}{zl:List Value}{ag:Bool}[TEl P t te][TZe P te zl][TSize P te sz][TAg P te ag](h0:Rd c T x0 v0)(h1:Rd c T x1 v1)(h2:Rd c T x2 v2)(h3:Rd c T x3 v3)(hzs:zl.length=sz)(hag:ag=true\/zl.length=1)(hn:4*sz<=16777216)(hpos:0<4*sz)(hf:Bi sz (List.replicate 4 (zAV zl ag)) [(0,v0),(1,v1),(2,v2),(3,v3)]=some [v0,v1,v2,v3])[hz:Frzs [v0,v1,v2,v3] l']:Stp c P ⟨dst,.buildSlice t 4 #[(0,x0),(1,x1),(2,x2),(3,x3)],ty,pos,after,g⟩ T S [(x0,v0),(x1,v1),(x2,v2),(x3,v3)] [] (.lst false te sz l') []:=⟨hz.h▸Bk (ps:=[(0,x0,v0),(1,x1,v1),(2,x2,v2),(3,x3,v3)]) TEl.h TZe.h TSize.h hzs hag hn hpos hf,(.cons h0 (.cons h1 (.cons h2 (.cons h3 .nil)))),.nil⟩
theorem litF5{x0:Operand}{v0:AV}{x1:Operand}{v1:AV}{x2:Operand}{v2:AV}{x3:Operand}{v3:AV}{x4:Operand}{v4:AV}{zl:List Value}{ag:Bool}[TEl P t te][TZe P te zl][TSize P te sz][TAg P te ag](h0:Rd c T x0 v0)(h1:Rd c T x1 v1)(h2:Rd c T x2 v2)(h3:Rd c T x3 v3)(h4:Rd c T x4 v4)(hzs:zl.length=sz)(hag:ag=true\/zl.length=1)(hn:5*sz<=16777216)(hpos:0<5*sz)(hf:Bi sz (List.replicate 5 (zAV zl ag)) [(0,v0),(1,v1),(2,v2),(3,v3),(4,v4)]=some [v0,v1,v2,v3,v4])[hz:Frzs [v0,v1,v2,v3,v4] l']:Stp c P ⟨dst,.buildSlice t 5 #[(0,x0),(1,x1),(2,x2),(3,x3),(4,x4)],ty,pos,after,g⟩ T S [(x0,v0),(x1,v1),(x2,v2),(x3,v3),(x4,v4)] [] (.lst false te sz l') []:=⟨hz.h▸Bk (ps:=[(0,x0,v0),(1,x1,v1),(2,x2,v2),(3,x3,v3),(4,x4,v4)]) TEl.h TZe.h TSize.h hzs hag hn hpos hf,(.cons h0 (.cons h1 (.cons h2 (.cons h3 (.cons h4 .nil))))),.nil⟩
theorem litF6{x0:Operand}{v0:AV}{x1:Operand}{v1:AV}{x2:Operand}{v2:AV}{x3:Operand}{v3:AV}{x4:Operand}{v4:AV}{x5:Operand}{v5:AV}{zl:List Value}{ag:Bool}[TEl P t te][TZe P te zl][TSize P te sz][TAg P te ag](h0:Rd c T x0 v0)(h1:Rd c T x1 v1)(h2:Rd c T x2 v2)(h3:Rd c T x3 v3)(h4:Rd c T x4 v4)(h5:Rd c T x5 v5)(hzs:zl.length=sz)(hag:ag=true\/zl.length=1)(hn:6*sz<=16777216)(hpos:0<6*sz)(hf:Bi sz (List.replicate 6 (zAV zl ag)) [(0,v0),(1,v1),(2,v2),(3,v3),(4,v4),(5,v5)]=some [v0,v1,v2,v3,v4,v5])[hz:Frzs [v0,v1,v2,v3,v4,v5] l']:Stp c P ⟨dst,.buildSlice t 6 #[(0,x0),(1,x1),(2,x2),(3,x3),(4,x4),(5,x5)],ty,pos,after,g⟩ T S [(x0,v0),(x1,v1),(x2,v2),(x3,v3),(x4,v4),(x5,v5)] [] (.lst false te sz l') []:=⟨hz.h▸Bk (ps:=[(0,x0,v0),(1,x1,v1),(2,x2,v2),(3,x3,v3),(4,x4,v4),(5,x5,v5)]) TEl.h TZe.h TSize.h hzs hag hn hpos hf,(.cons h0 (.cons h1 (.cons h2 (.cons h3 (.cons h4 (.cons h5 .nil)))))),.nil⟩
theorem litF7{x0:Operand}{v0:AV}{x1:Operand}{v1:AV}{x2:Operand}{v2:AV}{x3:Operand}{v3:AV}{x4:Operand}{v4:AV}{x5:Operand}{v5:AV}{x6:Operand}{v6:AV}{zl:List Value}{ag:Bool}[TEl P t te][TZe P te zl][TSize P te sz][TAg P te ag](h0:Rd c T x0 v0)(h1:Rd c T x1 v1)(h2:Rd c T x2 v2)(h3:Rd c T x3 v3)(h4:Rd c T x4 v4)(h5:Rd c T x5 v5)(h6:Rd c T x6 v6)(hzs:zl.length=sz)(hag:ag=true\/zl.length=1)(hn:7*sz<=16777216)(hpos:0<7*sz)(hf:Bi sz (List.replicate 7 (zAV zl ag)) [(0,v0),(1,v1),(2,v2),(3,v3),(4,v4),(5,v5),(6,v6)]=some [v0,v1,v2,v3,v4,v5,v6])[hz:Frzs [v0,v1,v2,v3,v4,v5,v6] l']:Stp c P ⟨dst,.buildSlice t 7 #[(0,x0),(1,x1),(2,x2),(3,x3),(4,x4),(5,x5),(6,x6)],ty,pos,after,g⟩ T S [(x0,v0),(x1,v1),(x2,v2),(x3,v3),(x4,v4),(x5,v5),(x6,v6)] [] (.lst false te sz l') []:=⟨hz.h▸Bk (ps:=[(0,x0,v0),(1,x1,v1),(2,x2,v2),(3,x3,v3),(4,x4,v4),(5,x5,v5),(6,x6,v6)]) TEl.h TZe.h TSize.h hzs hag hn hpos hf,(.cons h0 (.cons h1 (.cons h2 (.cons h3 (.cons h4 (.cons h5 (.cons h6 .nil))))))),.nil⟩
theorem litF8{x0:Operand}{v0:AV}{x1:Operand}{v1:AV}{x2:Operand}{v2:AV}{x3:Operand}{v3:AV}{x4:Operand}{v4:AV}{x5:Operand}{v5:AV}{x6:Operand}{v6:AV}{x7:Operand}{v7:AV}{zl:List Value}{ag:Bool}[TEl P t te][TZe P te zl][TSize P te sz][TAg P te ag](h0:Rd c T x0 v0)(h1:Rd c T x1 v1)(h2:Rd c T x2 v2)(h3:Rd c T x3 v3)(h4:Rd c T x4 v4)(h5:Rd c T x5 v5)(h6:Rd c T x6 v6)(h7:Rd c T x7 v7)(hzs:zl.length=sz)(hag:ag=true\/zl.length=1)(hn:8*sz<=16777216)(hpos:0<8*sz)(hf:Bi sz (List.replicate 8 (zAV zl ag)) [(0,v0),(1,v1),(2,v2),(3,v3),(4,v4),(5,v5),(6,v6),(7,v7)]=some [v0,v1,v2,v3,v4,v5,v6,v7])[hz:Frzs [v0,v1,v2,v3,v4,v5,v6,v7] l']:Stp c P ⟨dst,.buildSlice t 8 #[(0,x0),(1,x1),(2,x2),(3,x3),(4,x4),(5,x5),(6,x6),(7,x7)],ty,pos,after,g⟩ T S [(x0,v0),(x1,v1),(x2,v2),(x3,v3),(x4,v4),(x5,v5),(x6,v6),(x7,v7)] [] (.lst false te sz l') []:=⟨hz.h▸Bk (ps:=[(0,x0,v0),(1,x1,v1),(2,x2,v2),(3,x3,v3),(4,x4,v4),(5,x5,v5),(6,x6,v6),(7,x7,v7)]) TEl.h TZe.h TSize.h hzs hag hn hpos hf,(.cons h0 (.cons h1 (.cons h2 (.cons h3 (.cons h4 (.cons h5 (.cons h6 (.cons h7 .nil)))))))),.nil⟩
end W
end
section
variable {ro:Option Nat}
open Go.RowKit
section
variable {P:Program}{nt:Nat}{m0 m:Mem}{X p:Nat}{t:TypeId}{sz:Nat}{e:AV}
theorem St.iceP{st:St}(ds:List Nat)(hd:∀d∈ds,AQ st.T d=some (.ptr X 0 0))(hS:At st.S p (X,.row t sz [e])):CS nt st λst'=>st'=⟨ds.map (λd=>(d,.fp e.frz.cells))++st.T,st.S.set p (X,.used)⟩:=by
 rintro m0 a w ⟨m,N,Z,rfl,h2,h3,h4⟩;obtain⟨bs,hz⟩:=hS.z h2;obtain⟨R,hp1,hp2⟩:=BF hz;obtain⟨m',hw,G',hle,_,hv⟩:=(h3.perm hp1).iced;refine⟨_,⟨m',N,Z.set p ((X,.used),[]),hw,by rw[List.map_set,h2],G'.perm (hp2 _).symm,h4.1,h4.2.1.mono hle,?_⟩,rfl⟩;have hT:∀d v,AQ st.T d=some v->∃u,a.tmps[d]?=some u/\VV m v u []:=h4.2.2;clear h4
 induction ds with
 |nil=>exact λd v h=>let ⟨u,h5,h6⟩:=hT d v h;⟨u,h5,h6.mono hle (by simp)⟩
 |cons d ds ih=>
  intro d' v h;simp only[List.map_cons,List.cons_append]at h;rw[AZ]at h;split at h
  ·rename_i e';subst e'
   injection h with h;subst h
   obtain⟨u,h5,h6⟩:=hT _ _ (hd d' (by simp));exact⟨u,h5,hv e [u] rfl h6⟩
  ·exact ih (λd hd'=>hd d (by simp[hd'])) d' v h
theorem AWP.iceP{c:Code}{Q:Exit->St->Prop}{T:List (Nat×AV)}{S:List AA}(ds:List Nat)(hS:At S p (X,.row t sz [e])){b:AV}[hf:Frz e b](k:AWP ro P nt c Q ⟨ds.map (λd=>(d,.fp b.cells))++T,S.set p (X,.used)⟩)(hd:∀d∈ds,AQ T d=some (.ptr X 0 0)):AWP ro P nt c Q ⟨T,S⟩:=
 .ghost (St.iceP (st:=⟨T,S⟩) ds hd hS) λst' e=>by subst e;rw[hf.h];exact k
end
section
variable {P:Program}{dst:Option Tmp}{ty t:TypeId}{pos:String}{after:Array Edge}{g:Option (Nat×Bool)}{x:Operand}{v:AV}
theorem OpT.boxF(hs:v.stor=true):OpT P ⟨dst,.box t x,ty,pos,after,g⟩ [(x,v)] [] (.fp v.frz.cells) []:=by
 intro nt m0 T S a w hx hS hd hr;obtain⟨_,hr',X,rfl⟩:=St.reserve (nt:=nt) ⟨T,S⟩ m0 a w hr;refine Oper.wp_mono (λa' w' h=>?_) (OpT.box (dst:=dst) (ty:=ty) (t:=t) (pos:=pos) (after:=after) (g:=g) (X:=X) (p:=0) hs nt m0 T ((X,.gone)::S) a w hx (by simp) hd hr');cases dst with
 |none=>exact Rel.sub h (.cons _ (.refl _))
 |some d=>
  obtain⟨_,h2,rfl⟩:=St.iceP (nt:=nt) (st:=⟨AL T (some d) (.ptr X 0 0),AM ((X,.gone)::S) [(0,(X,.row t v.width [v]))]⟩) (p:=0) (X:=X) (t:=t) (sz:=v.width) (e:=v) [d] (by simp[AL,AZ]) .here m0 a' w' h;refine Rel.sub (EC h2 λe v he=>?_) (.cons _ (.refl _));simp only[AL,AZ,List.map_cons,List.map_nil,List.cons_append,List.nil_append]at he⊢;by_cases e':e=d
  ·simpa[e']using he
  ·simpa[e']using he
theorem G7{a:Act}{w:World}{args:Array Operand}{ats:Array TypeId}{f:FuncId}{vs:Array Value}{K:Act->World->Prop}(ha:a.eval x= .func (.func f) #[] vs)(hf:J4 P f=true)
  (h:Calls P f (args.map a.eval++vs) w λe w'=>∃v,e= .returned v/\K (a.put dst v) w'):Oper.wp P ⟨dst,.call ⟨.value x,args,ats⟩,ty,pos,after,g⟩ a w K (λ_ _ _=>False):=by
 unfold J4 at hf
 have hrun:(execOp a.eval ⟨dst,.call ⟨.value x,args,ats⟩,ty,pos,after,g⟩).run P w= .ok (.enter f (args.map a.eval++vs)) w:=by
  split at hf
  ·rename_i fn hfn
   simp only[Bool.and_eq_true,Bool.not_eq_true']at hf
   have hb:fn.body.isNone=false:=by
    cases hfb:fn.body with
    |none=>rw[hfb]at hf;simp at hf
    |some c=>rfl
   have h1:¬fn.name= "runtime.NumGoroutine" :=by simpa using hf.1
   have h2:¬fn.body=none:=by intro h;rw[h]at hb;cases hb
   simp[execOp,resolve,ha,Deferred.ofValue,invoke,callFunc,program,Sem.run_bind,Sem.run,Result.andThen_ok,hfn,h1,h2]
  ·cases hf
 unfold Oper.wp;rw[hrun];simp only[Oper.upon];refine h.mono λe w' ⟨v,he,hk⟩=>?_
 subst he;exact hk
theorem GN{m:Mem}:∀{cap:List AV} {us:List Value},BN cap=true->VCs m cap us []->VTs m cap us []
 |[],us,_,h=>⟨h.1,rfl⟩
 |c::cap,us,hs,h=>by
  simp only[BN,Bool.and_eq_true]at hs;obtain⟨c1,c2,b1,b2,rfl,e,h1,h2⟩:=h;obtain⟨rfl,rfl⟩:b1=[]/\b2=[]:=by simpa using e.symm
  have hl:=VC.len _ h1;have hw:c.width=1:=by cases c<;>first|rfl|(simp[AV.st1]at hs)
  rw[hw]at hl;obtain⟨u,rfl⟩:=List.length_eq_one_iff.1 hl;have hn:ntup c=true:=by cases c<;>first|rfl|(simp[AV.st1]at hs)
  have hv:VV m c u []:=by cases c<;>first|exact h1|(simp[AV.st1]at hs)
  exact(Av hn).2 ⟨u,c2,[],[],rfl,rfl,hv,GN hs.2 h2⟩
theorem GO{m:Mem}:∀{l k:List AV} {us vs:List Value},VTs m l us []->VTs m k vs []->VTs m (l++k) (us++vs) []
 |[],k,us,vs,h,h'=>by obtain⟨rfl,_⟩:=h;exact h'
 |a::l,k,us,vs,h,h'=>by
  have ha:=h.ntup;obtain⟨u,us',b1,b2,rfl,e,h1,h2⟩:=(Av ha).1 h;obtain⟨rfl,rfl⟩:b1=[]/\b2=[]:=by simpa using e.symm
  exact(Av ha).2 ⟨u,us'++vs,[],[],rfl,rfl,h1,GO h2 h'⟩
variable {xs:List (Operand×AV)}{f:FuncId}{cap:List AV}{ats:Array TypeId}{r:AV}
theorem GI(h:PS P f (xs.map (·.2)++cap) r)(hs:BN cap=true)(ht:AY xs=true):OpT P ⟨dst,.call ⟨.value x,(xs.map (·.1)).toArray,ats⟩,ty,pos,after,g⟩ ((x,.fn f cap)::xs) [] r.frz []:=by
 intro nt m0 T S a w hx hS hd hr;obtain⟨m,N,Z,rfl,h2,h3,h4⟩:=hr;obtain⟨vs,e1,h5⟩:=h4.ev (hx (x,.fn f cap) (by simp));injection e1 with e1
 refine G7 e1 h.fn ?_
 refine(h.run S m N Z _ h2 h3.self (by
  have:=GO (Cj (Bc ht) λq hq=>h4.ev (hx q (by simp[hq]))) (GN hs h5);simpa[Function.comp_def]using this)).mono ?_
 rintro e w' ⟨v,r',S',m',N',Z',br,rfl,rfl,hm,G',hv,rfl,rfl⟩;obtain⟨G2,hle⟩:=Good.freeze (ex:=br) (ex':=[]) (by simpa using h3.after G') _ rfl;exact⟨v,rfl,{m' with F:=λb=>m'.F b\/b∈br},N',Z',rfl,hm,G2,((h4.mono G'.le).mono hle).put hd (VV.frz hle (λb hb=>⟨.inr hb,rfl⟩) hv)⟩
variable {X p:Nat}{o o':AO}
end
namespace W
variable {P:Program}{dst:Option Tmp}{ty t:TypeId}{pos:String}{after:Array Edge}{g:Option (Nat×Bool)}{T:List (Nat×AV)}{S:List AA}{c:Option (List Bool)}{x:Operand}{v r r':AV}{f:FuncId}{cap:List AV}{ats:Array TypeId}{X p:Nat}{o o':AO}
theorem boxF(hx:Rd c T x v)(hs:v.stor=true){b:AV}[hf:Frz v b]:Stp c P ⟨dst,.box t x,ty,pos,after,g⟩ T S [(x,v)] [] (.fp b.cells) []:=⟨hf.h▸OpT.boxF hs,.cons hx .nil,.nil⟩
theorem func0:Stp c P ⟨dst,.makeFunc (.func f) #[] #[],ty,pos,after,g⟩ T S [] [] (.fn f []) []:=⟨.makeFunc (xs:=[]) rfl,.nil,.nil⟩
theorem callC1{x0:Operand}{v0:AV}(hx:Rd c T x (.fn f cap))(h0:Rd c T x0 v0)(h:PS P f (v0::cap) r)(hs:BN cap=true)(ht:AY [(x0,v0)]=true)(hf:r.frz=r'):Stp c P ⟨dst,.call ⟨.value x,#[x0],ats⟩,ty,pos,after,g⟩ T S [(x,.fn f cap),(x0,v0)] [] r' []:=⟨hf▸GI (xs:=[(x0,v0)]) h hs ht,(.cons hx (.cons h0 .nil)),.nil⟩
theorem callC2{x0:Operand}{v0:AV}{x1:Operand}{v1:AV}(hx:Rd c T x (.fn f cap))(h0:Rd c T x0 v0)(h1:Rd c T x1 v1)(h:PS P f (v0::v1::cap) r)(hs:BN cap=true)(ht:AY [(x0,v0),(x1,v1)]=true)(hf:r.frz=r'):Stp c P ⟨dst,.call ⟨.value x,#[x0,x1],ats⟩,ty,pos,after,g⟩ T S [(x,.fn f cap),(x0,v0),(x1,v1)] [] r' []:=⟨hf▸GI (xs:=[(x0,v0),(x1,v1)]) h hs ht,(.cons hx (.cons h0 (.cons h1 .nil))),.nil⟩
end W
end
section
variable {ro:Option Nat}
inductive Grd(ops:Array Oper)(T:List (Nat×AV)):Option (Nat×Bool)->List Nat->Prop
 |none:Grd ops T .none []
 |met {g t:Nat} {b b':Bool} (ht:(ops[g]?).bind (·.dst)=some t) (hv:AQ T t=some (.prim (.bool b'))) (hb:b'=b):Grd ops T (some (g,b)) [t]
section
variable {P:Program}{nt:Nat}{ops:Array Oper}{Q:Exit->St->Prop}{l rest:List Oper}{acc:List Eff}{st:St}{T:List (Nat×AV)}{S:List AA}{xs:List (Operand×AV)}{rS wS:List (Nat×AA)}{v:AV}{op:Op}{ty:TypeId}{pos:String}{after:Array Edge}{dst:Option Tmp}{g:Option (Nat×Bool)}{ts:List Nat}
theorem Stp.ung{g':Option (Nat×Bool)}{c:Option (List Bool)}(h:Stp c P ⟨dst,op,ty,pos,after,g⟩ T S xs rS v wS):Stp c P ⟨dst,op,ty,pos,after,g'⟩ T S xs rS v wS:=⟨h.op,h.rd,h.get⟩
theorem Cf(h:Stp none P ⟨dst,op,ty,pos,after,g⟩ T S xs rS v wS)(hd:AD dst nt=true)(hg:Grd ops T g ts)(k:RGo P nt ops l Q rest (acc++[⟨⟨dst,op,ty,pos,after,g⟩,ts++AW xs,rS.map (·.1),v,wS⟩]) ⟨AL T dst v,AM S wS⟩):RGo P nt ops l Q (⟨dst,op,ty,pos,after,g⟩::rest) acc ⟨T,S⟩:=by
 cases hg with
 |none=>exact RGo.s h hd k
 |met ht hv hb=>exact RGo.sG ht hv hb h.ung hd k
theorem Gx(h:Stp none P ⟨dst,op,ty,pos,after,g⟩ T S xs rS v [])(hd:AD dst nt=true)(hg:Grd ops T g ts)(k:RGo P nt ops l Q rest (acc++[⟨⟨dst,op,ty,pos,after,g⟩,ts++AW xs,rS.map (·.1),v,[]⟩]) ⟨AL T dst v,S⟩):RGo P nt ops l Q (⟨dst,op,ty,pos,after,g⟩::rest) acc ⟨T,S⟩:=Cf h hd hg k
end
namespace W
variable {P:Program}{dst:Option Tmp}{ty:TypeId}{pos:String}{after:Array Edge}{g:Option (Nat×Bool)}{T:List (Nat×AV)}{S:List AA}{c:Option (List Bool)}{x y z:Operand}{v w:AV}
theorem pickB{b p q:Bool}(hx:Rd c T x (.prim (.bool b)))(hy:Rd c T y (.prim (.bool p)))(hz:Rd c T z (.prim (.bool q))):Stp c P ⟨dst,.pick x y z,ty,pos,after,g⟩ T S [(x,.prim (.bool b)),(y,.prim (.bool p)),(z,.prim (.bool q))] [] (.prim (.bool (cond b p q))) []:=by
 cases b<;>exact pick hx hy hz
theorem pickT{b:Bool}{va vb:AV}(hx:Rd c T x (.prim (.bool b)))(hy:Rd c T y va)(hb:b=true)(hz:Rd c T z vb:=by rfl):Stp c P ⟨dst,.pick x y z,ty,pos,after,g⟩ T S [(x,.prim (.bool b)),(y,va),(z,vb)] [] va []:=by
 subst hb;exact pick hx hy hz
theorem pickF{b:Bool}{va vb:AV}(hx:Rd c T x (.prim (.bool b)))(hz:Rd c T z vb)(hb:b=false)(hy:Rd c T y va:=by rfl):Stp c P ⟨dst,.pick x y z,ty,pos,after,g⟩ T S [(x,.prim (.bool b)),(y,va),(z,vb)] [] vb []:=by
 subst hb;exact pick hx hy hz
end W
theorem AOps.sub{P:Program}{nt:Nat}{ops:Array Oper}{Q:Exit->St->Prop}{rest:List Oper}{T:List (Nat×AV)}{S S':List AA}(hS:S'.Sublist S)(h:AOps ro P nt ops Q rest ⟨T,S'⟩):AOps ro P nt ops Q rest ⟨T,S⟩:=λm0 a w hr=>h m0 a w (hr.sub hS)
section
variable {P:Program}{ty t t2:TypeId}{pos:String}{after:Array Edge}{dst:Option Tmp}{g:Option (Nat×Bool)}{x y z:Operand}{f n:Nat}{ar:Array (Nat×Operand)}{c:Option (List Bool)}{T:List (Nat×AV)}{S:List AA}{xs:List (Operand×AV)}{rS wS:List (Nat×AA)}{v:AV}
theorem FQ(k:Stp c P ⟨dst,.move x,ty,pos,after,g⟩ T S xs rS v wS):Stp c P ⟨dst,.move x,ty,pos,after,g⟩ T S xs rS v wS:=k
theorem Dk(k:Stp c P ⟨dst,.assign x,ty,pos,after,g⟩ T S xs rS v wS):Stp c P ⟨dst,.assign x,ty,pos,after,g⟩ T S xs rS v wS:=k
theorem FR(k:Stp c P ⟨dst,.load t x,ty,pos,after,g⟩ T S xs rS v wS):Stp c P ⟨dst,.load t x,ty,pos,after,g⟩ T S xs rS v wS:=k
theorem H9(k:Stp c P ⟨dst,.store t x y,ty,pos,after,g⟩ T S xs rS v wS):Stp c P ⟨dst,.store t x y,ty,pos,after,g⟩ T S xs rS v wS:=k
theorem Ci(k:Stp c P ⟨dst,.fieldAddr t x f,ty,pos,after,g⟩ T S xs rS v wS):Stp c P ⟨dst,.fieldAddr t x f,ty,pos,after,g⟩ T S xs rS v wS:=k
theorem ES(k:Stp c P ⟨dst,.field t x f,ty,pos,after,g⟩ T S xs rS v wS):Stp c P ⟨dst,.field t x f,ty,pos,after,g⟩ T S xs rS v wS:=k
theorem Ch(k:Stp c P ⟨dst,.indexAddr t x y,ty,pos,after,g⟩ T S xs rS v wS):Stp c P ⟨dst,.indexAddr t x y,ty,pos,after,g⟩ T S xs rS v wS:=k
theorem ER(k:Stp c P ⟨dst,.index t x y,ty,pos,after,g⟩ T S xs rS v wS):Stp c P ⟨dst,.index t x y,ty,pos,after,g⟩ T S xs rS v wS:=k
theorem CD(k:Stp c P ⟨dst,.alloc t,ty,pos,after,g⟩ T S xs rS v wS):Stp c P ⟨dst,.alloc t,ty,pos,after,g⟩ T S xs rS v wS:=k
theorem Stp.g_box(k:Stp c P ⟨dst,.box t x,ty,pos,after,g⟩ T S xs rS v wS):Stp c P ⟨dst,.box t x,ty,pos,after,g⟩ T S xs rS v wS:=k
theorem GH{bo:BinOp}(k:Stp c P ⟨dst,.binOp bo t x y t2,ty,pos,after,g⟩ T S xs rS v wS):Stp c P ⟨dst,.binOp bo t x y t2,ty,pos,after,g⟩ T S xs rS v wS:=k
theorem H8{uo:UnOp}(k:Stp c P ⟨dst,.unOp uo t x,ty,pos,after,g⟩ T S xs rS v wS):Stp c P ⟨dst,.unOp uo t x,ty,pos,after,g⟩ T S xs rS v wS:=k
theorem FS{ci}(k:Stp c P ⟨dst,.call ci,ty,pos,after,g⟩ T S xs rS v wS):Stp c P ⟨dst,.call ci,ty,pos,after,g⟩ T S xs rS v wS:=k
theorem FP(k:Stp c P ⟨dst,.pick x y z,ty,pos,after,g⟩ T S xs rS v wS):Stp c P ⟨dst,.pick x y z,ty,pos,after,g⟩ T S xs rS v wS:=k
theorem DE(k:Stp c P ⟨dst,.extract x n,ty,pos,after,g⟩ T S xs rS v wS):Stp c P ⟨dst,.extract x n,ty,pos,after,g⟩ T S xs rS v wS:=k
theorem ET(k:Stp c P ⟨dst,.build t ar,ty,pos,after,g⟩ T S xs rS v wS):Stp c P ⟨dst,.build t ar,ty,pos,after,g⟩ T S xs rS v wS:=k
theorem CR(k:Stp c P ⟨dst,.buildSlice t n ar,ty,pos,after,g⟩ T S xs rS v wS):Stp c P ⟨dst,.buildSlice t n ar,ty,pos,after,g⟩ T S xs rS v wS:=k
theorem Cv(k:Stp c P ⟨dst,.nilCheck x,ty,pos,after,g⟩ T S xs rS v wS):Stp c P ⟨dst,.nilCheck x,ty,pos,after,g⟩ T S xs rS v wS:=k
theorem Cw{fu:Fn}{fi ca:Array Operand}(k:Stp c P ⟨dst,.makeFunc fu fi ca,ty,pos,after,g⟩ T S xs rS v wS):Stp c P ⟨dst,.makeFunc fu fi ca,ty,pos,after,g⟩ T S xs rS v wS:=k
end
theorem AB{cs:List Bool}{T:List (Nat×AV)}{x:Operand}{w v:AV}(h:ev T x=some w:=by rfl)(k:Strips cs w v:=by first|with_reducible exact .a1|with_reducible exact .b12|with_reducible exact .b1|with_reducible exact .b2|with_reducible exact .refl|exact .refl|exact .step (by simp) .refl|exact .step (by simp) (.step (by simp) .refl)|exact .step (by simp) (.step (by simp) (.step (by simp) .refl))):Rd (some cs) T x v:=.q h k
theorem At.f{S:List AA}{p:Nat}{e:AA}(h:At S p e:=by(repeat (first|exact .here|apply At.next))):At S p e:=h
theorem Lk.f{T T':List (Nat×AV)}(h:Looks T T':=by(repeat (first|exact .nil|refine .cons (by first|rfl|assumption) ?_))):Looks T T':=h
theorem Sub.f{S S':List AA}(h:S'.Sublist S:=by(repeat (first|exact List.Sublist.refl _|exact List.Sublist.slnil|apply List.Sublist.cons_cons|apply List.Sublist.cons))):S'.Sublist S:=h
section
variable {P:Program}{ty:TypeId}{pos:String}{after:Array Edge}{dst:Option Tmp}{g:Option (Nat×Bool)}{op:Op}{c:Option (List Bool)}{T:List (Nat×AV)}{S:List AA}{xs:List (Operand×AV)}{rS wS:List (Nat×AA)}{v:AV}
theorem Gw(h:Stp c P ⟨dst,op,ty,pos,after,g⟩ T S xs rS v wS:=by(first
   |(apply FQ;first|exact W.move rfl)
   |(apply Dk;first|exact W.assign rfl)
   |(apply FR;first|exact W.loadFW rfl (by exact rfl)|exact W.loadW rfl (by exact At.f) (by first|exact rfl|assumption|exact Aj _ (by first|assumption|omega)|exact Aj _ (by(try simp);omega)) (by exact rfl)|exact W.loadF rfl (by exact rfl)|exact W.load rfl (by exact At.f) (by first|exact rfl|assumption|exact Aj _ (by first|assumption|omega)|exact Aj _ (by(try simp);omega)) (by exact rfl))
   |(apply Ci;first|exact W.fieldF rfl (by exact rfl)|exact W.fieldA rfl (by exact At.f) (by first|exact Nat.zero_lt_one|assumption|decide|omega|((try simp);omega)|(simp;done)))
   |(apply ES;first|exact W.field rfl (by exact rfl))
   |(apply GH;first|exact W.lss rfl rfl|exact W.leq rfl rfl|exact W.gtr rfl rfl|exact W.geq rfl rfl|exact W.eqI rfl rfl|exact W.neI rfl rfl|exact W.eqS rfl rfl|exact W.neS rfl rfl|exact W.add rfl rfl ⟨by omega,by omega⟩|exact W.sub rfl rfl ⟨by omega,by omega⟩)
   |(apply H8;first|exact W.not rfl)
   |(apply Ch;first|exact W.idxL rfl rfl rfl (by first|exact rfl|assumption|exact Aj _ (by first|assumption|omega)|exact Aj _ (by(try simp);omega))|exact W.idx rfl rfl (by exact At.f) rfl (by first|exact Nat.zero_lt_one|assumption|decide|omega|((try simp);omega)|(simp;done)) (Nat.zero_add _))
   |(apply ER;first|exact W.idxStr rfl rfl rfl (by assumption))
   |(apply FS;first|exact W.lenL rfl|exact W.lenS rfl|exact W.lenN rfl|exact W.lenStr rfl|exact W.min2 rfl rfl|exact W.max2 rfl rfl)
   |(apply Cv;first|exact W.nilF rfl|exact W.nilA rfl (by exact At.f) (by first|exact Nat.zero_lt_one|assumption|decide|omega|((try simp);omega)|(simp;done)))
   |(apply DE;first|exact W.extract rfl rfl)
   |(apply ET;first|exact W.build0 (by first|exact Aq (by dsimp only[BZ,B5,CM,over,AV.cells,List.map];try exact rfl) (by exact rfl)|exact rfl)|exact W.build1 rfl (by first|exact Aq (by dsimp only[BZ,B5,CM,over,AV.cells,List.map];try exact rfl) (by exact rfl)|exact rfl)|exact W.build2 rfl rfl (by first|exact Aq (by dsimp only[BZ,B5,CM,over,AV.cells,List.map];try exact rfl) (by exact rfl)|exact rfl)|exact W.build3 rfl rfl rfl (by first|exact Aq (by dsimp only[BZ,B5,CM,over,AV.cells,List.map];try exact rfl) (by exact rfl)|exact rfl)|exact W.build4 rfl rfl rfl rfl (by first|exact Aq (by dsimp only[BZ,B5,CM,over,AV.cells,List.map];try exact rfl) (by exact rfl)|exact rfl)|exact W.build5 rfl rfl rfl rfl rfl (by first|exact Aq (by dsimp only[BZ,B5,CM,over,AV.cells,List.map];try exact rfl) (by exact rfl)|exact rfl)|exact W.build6 rfl rfl rfl rfl rfl rfl (by first|exact Aq (by dsimp only[BZ,B5,CM,over,AV.cells,List.map];try exact rfl) (by exact rfl)|exact rfl)|exact W.build7 rfl rfl rfl rfl rfl rfl rfl (by first|exact Aq (by dsimp only[BZ,B5,CM,over,AV.cells,List.map];try exact rfl) (by exact rfl)|exact rfl)|exact W.build8 rfl rfl rfl rfl rfl rfl rfl rfl (by first|exact Aq (by dsimp only[BZ,B5,CM,over,AV.cells,List.map];try exact rfl) (by exact rfl)|exact rfl))
   |(apply CR;first|exact W.litF0 (by exact rfl) (by first|exact .inl rfl|exact .inr rfl) (by decide) (by decide) (by exact rfl)|exact W.litF1 rfl (by exact rfl) (by first|exact .inl rfl|exact .inr rfl) (by decide) (by decide) (by exact rfl)|exact W.litF2 rfl rfl (by exact rfl) (by first|exact .inl rfl|exact .inr rfl) (by decide) (by decide) (by exact rfl)|exact W.litF3 rfl rfl rfl (by exact rfl) (by first|exact .inl rfl|exact .inr rfl) (by decide) (by decide) (by exact rfl)|exact W.litF4 rfl rfl rfl rfl (by exact rfl) (by first|exact .inl rfl|exact .inr rfl) (by decide) (by decide) (by exact rfl)|exact W.litF5 rfl rfl rfl rfl rfl (by exact rfl) (by first|exact .inl rfl|exact .inr rfl) (by decide) (by decide) (by exact rfl)|exact W.litF6 rfl rfl rfl rfl rfl rfl (by exact rfl) (by first|exact .inl rfl|exact .inr rfl) (by decide) (by decide) (by exact rfl)|exact W.litF7 rfl rfl rfl rfl rfl rfl rfl (by exact rfl) (by first|exact .inl rfl|exact .inr rfl) (by decide) (by decide) (by exact rfl)|exact W.litF8 rfl rfl rfl rfl rfl rfl rfl rfl (by exact rfl) (by first|exact .inl rfl|exact .inr rfl) (by decide) (by decide) (by exact rfl))
   |(apply Cw;first|exact W.func0|exact W.func1 rfl rfl|exact W.func2 rfl rfl rfl|exact W.func3 rfl rfl rfl rfl|exact W.func4 rfl rfl rfl rfl rfl|exact W.func5 rfl rfl rfl rfl rfl rfl|exact W.func6 rfl rfl rfl rfl rfl rfl rfl|exact W.func7 rfl rfl rfl rfl rfl rfl rfl rfl)
   |(apply FP;first|exact W.pickF rfl rfl (by first|rfl|assumption)|exact W.pickT rfl rfl (by first|rfl|assumption)|exact W.orQ rfl rfl rfl|exact W.andQ rfl rfl rfl|exact W.pickB rfl rfl rfl|exact W.pickP rfl rfl rfl))):Stp c P ⟨dst,op,ty,pos,after,g⟩ T S xs rS v wS:=h
theorem Bv(h:Stp c P ⟨dst,op,ty,pos,after,g⟩ T S xs rS v wS:=by(first
   |(apply FQ;first|exact W.move AB)
   |(apply Dk;first|exact W.assign AB)
   |(apply FR;first|exact W.loadFW AB (by exact rfl)|exact W.loadW AB (by exact At.f) (by first|exact rfl|assumption|exact Aj _ (by first|assumption|omega)|exact Aj _ (by(try simp);omega)) (by exact rfl)|exact W.loadF AB (by exact rfl)|exact W.load AB (by exact At.f) (by first|exact rfl|assumption|exact Aj _ (by first|assumption|omega)|exact Aj _ (by(try simp);omega)) (by exact rfl))
   |(apply Ci;first|exact W.fieldF AB (by exact rfl)|exact W.fieldA AB (by exact At.f) (by first|exact Nat.zero_lt_one|assumption|decide|omega|((try simp);omega)|(simp;done)))
   |(apply ES;first|exact W.field AB (by exact rfl))
   |(apply GH;first|exact W.lss AB AB|exact W.leq AB AB|exact W.gtr AB AB|exact W.geq AB AB|exact W.eqI AB AB|exact W.neI AB AB|exact W.eqS AB AB|exact W.neS AB AB|exact W.add AB AB ⟨by omega,by omega⟩|exact W.sub AB AB ⟨by omega,by omega⟩)
   |(apply H8;first|exact W.not AB)
   |(apply Ch;first|exact W.idxL AB AB rfl (by first|exact rfl|assumption|exact Aj _ (by first|assumption|omega)|exact Aj _ (by(try simp);omega))|exact W.idx AB AB (by exact At.f) rfl (by first|exact Nat.zero_lt_one|assumption|decide|omega|((try simp);omega)|(simp;done)) (Nat.zero_add _))
   |(apply ER;first|exact W.idxStr AB AB rfl (by assumption))
   |(apply FS;first|exact W.lenL AB|exact W.lenS AB|exact W.lenN AB|exact W.lenStr AB|exact W.min2 AB AB|exact W.max2 AB AB)
   |(apply Cv;first|exact W.nilF AB|exact W.nilA AB (by exact At.f) (by first|exact Nat.zero_lt_one|assumption|decide|omega|((try simp);omega)|(simp;done)))
   |(apply DE;first|exact W.extract AB rfl)
   |(apply ET;first|exact W.build0 (by first|exact Aq (by dsimp only[BZ,B5,CM,over,AV.cells,List.map];try exact rfl) (by exact rfl)|exact rfl)|exact W.build1 AB (by first|exact Aq (by dsimp only[BZ,B5,CM,over,AV.cells,List.map];try exact rfl) (by exact rfl)|exact rfl)|exact W.build2 AB AB (by first|exact Aq (by dsimp only[BZ,B5,CM,over,AV.cells,List.map];try exact rfl) (by exact rfl)|exact rfl)|exact W.build3 AB AB AB (by first|exact Aq (by dsimp only[BZ,B5,CM,over,AV.cells,List.map];try exact rfl) (by exact rfl)|exact rfl)|exact W.build4 AB AB AB AB (by first|exact Aq (by dsimp only[BZ,B5,CM,over,AV.cells,List.map];try exact rfl) (by exact rfl)|exact rfl)|exact W.build5 AB AB AB AB AB (by first|exact Aq (by dsimp only[BZ,B5,CM,over,AV.cells,List.map];try exact rfl) (by exact rfl)|exact rfl)|exact W.build6 AB AB AB AB AB AB (by first|exact Aq (by dsimp only[BZ,B5,CM,over,AV.cells,List.map];try exact rfl) (by exact rfl)|exact rfl)|exact W.build7 AB AB AB AB AB AB AB (by first|exact Aq (by dsimp only[BZ,B5,CM,over,AV.cells,List.map];try exact rfl) (by exact rfl)|exact rfl)|exact W.build8 AB AB AB AB AB AB AB AB (by first|exact Aq (by dsimp only[BZ,B5,CM,over,AV.cells,List.map];try exact rfl) (by exact rfl)|exact rfl))
   |(apply CR;first|exact W.litF0 (by exact rfl) (by first|exact .inl rfl|exact .inr rfl) (by decide) (by decide) (by exact rfl)|exact W.litF1 AB (by exact rfl) (by first|exact .inl rfl|exact .inr rfl) (by decide) (by decide) (by exact rfl)|exact W.litF2 AB AB (by exact rfl) (by first|exact .inl rfl|exact .inr rfl) (by decide) (by decide) (by exact rfl)|exact W.litF3 AB AB AB (by exact rfl) (by first|exact .inl rfl|exact .inr rfl) (by decide) (by decide) (by exact rfl)|exact W.litF4 AB AB AB AB (by exact rfl) (by first|exact .inl rfl|exact .inr rfl) (by decide) (by decide) (by exact rfl)|exact W.litF5 AB AB AB AB AB (by exact rfl) (by first|exact .inl rfl|exact .inr rfl) (by decide) (by decide) (by exact rfl)|exact W.litF6 AB AB AB AB AB AB (by exact rfl) (by first|exact .inl rfl|exact .inr rfl) (by decide) (by decide) (by exact rfl)|exact W.litF7 AB AB AB AB AB AB AB (by exact rfl) (by first|exact .inl rfl|exact .inr rfl) (by decide) (by decide) (by exact rfl)|exact W.litF8 AB AB AB AB AB AB AB AB (by exact rfl) (by first|exact .inl rfl|exact .inr rfl) (by decide) (by decide) (by exact rfl))
   |(apply Cw;first|exact W.func0|exact W.func1 AB rfl|exact W.func2 AB AB rfl|exact W.func3 AB AB AB rfl|exact W.func4 AB AB AB AB rfl|exact W.func5 AB AB AB AB AB rfl|exact W.func6 AB AB AB AB AB AB rfl|exact W.func7 AB AB AB AB AB AB AB rfl)
   |(apply FP;first|exact W.pickF AB AB (by first|rfl|assumption)|exact W.pickT AB AB (by first|rfl|assumption)|exact W.orQ AB AB AB|exact W.andQ AB AB AB|exact W.pickB AB AB AB|exact W.pickP AB AB AB))):Stp c P ⟨dst,op,ty,pos,after,g⟩ T S xs rS v wS:=h
theorem Gv(h:Stp c P ⟨dst,op,ty,pos,after,g⟩ T S xs rS v wS:=by(apply H9;exact W.storeN rfl rfl (by exact At.f) (by first|exact rfl|assumption|exact Aj _ (by first|assumption|omega)|exact Aj _ (by(try simp);omega)) (by exact rfl) (by first|exact Lz (by(dsimp only[Mv,B5,over,AV.cells,List.set]);try exact rfl) (by exact rfl)|exact rfl))):Stp c P ⟨dst,op,ty,pos,after,g⟩ T S xs rS v wS:=h
end
section
variable {P:Program}{nt:Nat}{ops:Array Oper}{Q:Exit->St->Prop}{rest:List Oper}{T:List (Nat×AV)}{S:List AA}{xs:List (Operand×AV)}{rS wS:List (Nat×AA)}{v:AV}{op:Op}{ty:TypeId}{pos:String}{after:Array Edge}{dst:Option Tmp}
theorem AOps.go(k:AOps ro P nt ops Q rest ⟨AL T dst v,S⟩)(h:Stp none P ⟨dst,op,ty,pos,after,none⟩ T S xs rS v []:=by exact Gw)(hd:AD dst nt=true:=by rfl):AOps ro P nt ops Q (⟨dst,op,ty,pos,after,none⟩::rest) ⟨T,S⟩:=AOps.p h hd k
theorem AOps.goS(k:AOps ro P nt ops Q rest ⟨AL T dst v,AM S wS⟩)(h:Stp none P ⟨dst,op,ty,pos,after,none⟩ T S xs rS v wS:=by exact Gv)(hd:AD dst nt=true:=by rfl):AOps ro P nt ops Q (⟨dst,op,ty,pos,after,none⟩::rest) ⟨T,S⟩:=AOps.s h hd k
theorem AOps.goQ1{g:Nat}{b b':Bool}{t:Nat}(k:AOps ro P nt ops Q rest ⟨AL T dst (.opt (b'==b) v),S⟩)(ht:(ops[g]?).bind (·.dst)=some t:=by rfl)(hv:AQ T t=some (.prim (.bool b')):=by rfl)(h:Stp (some [b'==b]) P ⟨dst,op,ty,pos,after,some (g,b)⟩ T S xs rS v []:=by exact Bv)(hd:AD dst nt=true:=by rfl)(hos:BA xs=true:=by exact rfl):AOps ro P nt ops Q (⟨dst,op,ty,pos,after,some (g,b)⟩::rest) ⟨T,S⟩:=AOps.sQ1 h ht hv hd hos k
theorem AOps.goQ2{c1:Bool}{g:Nat}{b b':Bool}{t:Nat}(k:AOps ro P nt ops Q rest ⟨AL T dst (.opt c1 (.opt (b'==b) v)),S⟩)(ht:(ops[g]?).bind (·.dst)=some t:=by rfl)(hv:AQ T t=some (.opt c1 (.prim (.bool b'))):=by rfl)(h:Stp (some [c1,b'==b]) P ⟨dst,op,ty,pos,after,some (g,b)⟩ T S xs rS v []:=by exact Bv)(hd:AD dst nt=true:=by rfl)(hos:BA xs=true:=by exact rfl):AOps ro P nt ops Q (⟨dst,op,ty,pos,after,some (g,b)⟩::rest) ⟨T,S⟩:=AOps.sQ2 h ht hv hd hos k
theorem AOps.goQ3{c1 c2:Bool}{g:Nat}{b b':Bool}{t:Nat}(k:AOps ro P nt ops Q rest ⟨AL T dst (.opt c1 (.opt c2 (.opt (b'==b) v))),S⟩)(ht:(ops[g]?).bind (·.dst)=some t:=by rfl)(hv:AQ T t=some (.opt c1 (.opt c2 (.prim (.bool b')))):=by rfl)(h:Stp (some [c1,c2,b'==b]) P ⟨dst,op,ty,pos,after,some (g,b)⟩ T S xs rS v []:=by exact Bv)(hd:AD dst nt=true:=by rfl)(hos:BA xs=true:=by exact rfl):AOps ro P nt ops Q (⟨dst,op,ty,pos,after,some (g,b)⟩::rest) ⟨T,S⟩:=AOps.sQ3 h ht hv hd hos k
theorem AOps.goN{g:Nat}{b b':Bool}{t:Nat}(k:AOps ro P nt ops Q rest ⟨AL T dst .dead,S⟩)(ht:(ops[g]?).bind (·.dst)=some t:=by rfl)(hv:AQ T t=some (.prim (.bool b')):=by rfl)(hb:b'= !b:=by first|rfl|assumption|(simp only[Bool.not_true,Bool.not_false];assumption))(hd:AD dst nt=true:=by rfl):AOps ro P nt ops Q (⟨dst,op,ty,pos,after,some (g,b)⟩::rest) ⟨T,S⟩:=AOps.sN ht hv hb hd k
theorem BG{t:TypeId}{x:Operand}{b:AV}(k:AOps ro P nt ops Q rest ⟨AL T dst (.fp b.cells),S⟩)(hx:Rd none T x v:=by rfl)(hs:v.stor=true:=by rfl)[hf:Frz v b](hd:AD dst nt=true:=by rfl):AOps ro P nt ops Q (⟨dst,.box t x,ty,pos,after,none⟩::rest) ⟨T,S⟩:=AOps.p (W.boxF hx hs) hd k
theorem Mf{x0:Operand}{v0:AV}{x:Operand}{f:FuncId}{cap:List AV}{ats:Array TypeId}{r r':AV}(hx:Rd none T x (.fn f cap):=by rfl)(h0:Rd none T x0 v0:=by rfl)(h:PS P f (v0::cap) r)(k:AOps ro P nt ops Q rest ⟨AL T dst r',S⟩)[hf:Frz r r'](hs:BN cap=true:=by first|rfl|assumption)(ht:AY [(x0,v0)]=true:=by rfl)(hd:AD dst nt=true:=by rfl):AOps ro P nt ops Q (⟨dst,.call ⟨.value x,#[x0],ats⟩,ty,pos,after,none⟩::rest) ⟨T,S⟩:=AOps.p (W.callC1 hx h0 h hs ht hf.h) hd k
theorem AOps.k2{x0:Operand}{v0:AV}{x1:Operand}{v1:AV}{x:Operand}{f:FuncId}{cap:List AV}{ats:Array TypeId}{r r':AV}(hx:Rd none T x (.fn f cap):=by rfl)(h0:Rd none T x0 v0:=by rfl)(h1:Rd none T x1 v1:=by rfl)(h:PS P f (v0::v1::cap) r)(k:AOps ro P nt ops Q rest ⟨AL T dst r',S⟩)[hf:Frz r r'](hs:BN cap=true:=by first|rfl|assumption)(ht:AY [(x0,v0),(x1,v1)]=true:=by rfl)(hd:AD dst nt=true:=by rfl):AOps ro P nt ops Q (⟨dst,.call ⟨.value x,#[x0,x1],ats⟩,ty,pos,after,none⟩::rest) ⟨T,S⟩:=AOps.p (W.callC2 hx h0 h1 h hs ht hf.h) hd k
theorem Mg{f:FuncId}{ats:Array TypeId}{r r':AV}(h:PS P f [] r)(k:AOps ro P nt ops Q rest ⟨AL T dst r',S⟩)[hf:Frz r r'](ht:AY []=true:=by rfl)(hd:AD dst nt=true:=by rfl):AOps ro P nt ops Q (⟨dst,.call ⟨.value (.func f),#[],ats⟩,ty,pos,after,none⟩::rest) ⟨T,S⟩:=AOps.p (W.callF0 h ht hf.h) hd k
theorem AOps.c1{x0:Operand}{v0:AV}{f:FuncId}{ats:Array TypeId}{r r':AV}(h0:Rd none T x0 v0:=by rfl)(h:PS P f [v0] r)(k:AOps ro P nt ops Q rest ⟨AL T dst r',S⟩)[hf:Frz r r'](ht:AY [(x0,v0)]=true:=by rfl)(hd:AD dst nt=true:=by rfl):AOps ro P nt ops Q (⟨dst,.call ⟨.value (.func f),#[x0],ats⟩,ty,pos,after,none⟩::rest) ⟨T,S⟩:=AOps.p (W.callF1 h0 h ht hf.h) hd k
theorem AOps.c2{x0:Operand}{v0:AV}{x1:Operand}{v1:AV}{f:FuncId}{ats:Array TypeId}{r r':AV}(h0:Rd none T x0 v0:=by rfl)(h1:Rd none T x1 v1:=by rfl)(h:PS P f [v0,v1] r)(k:AOps ro P nt ops Q rest ⟨AL T dst r',S⟩)[hf:Frz r r'](ht:AY [(x0,v0),(x1,v1)]=true:=by rfl)(hd:AD dst nt=true:=by rfl):AOps ro P nt ops Q (⟨dst,.call ⟨.value (.func f),#[x0,x1],ats⟩,ty,pos,after,none⟩::rest) ⟨T,S⟩:=AOps.p (W.callF2 h0 h1 h ht hf.h) hd k
theorem JV{x0:Operand}{v0:AV}{x1:Operand}{v1:AV}{x2:Operand}{v2:AV}{f:FuncId}{ats:Array TypeId}{r r':AV}(h0:Rd none T x0 v0:=by rfl)(h1:Rd none T x1 v1:=by rfl)(h2:Rd none T x2 v2:=by rfl)(h:PS P f [v0,v1,v2] r)(k:AOps ro P nt ops Q rest ⟨AL T dst r',S⟩)[hf:Frz r r'](ht:AY [(x0,v0),(x1,v1),(x2,v2)]=true:=by rfl)(hd:AD dst nt=true:=by rfl):AOps ro P nt ops Q (⟨dst,.call ⟨.value (.func f),#[x0,x1,x2],ats⟩,ty,pos,after,none⟩::rest) ⟨T,S⟩:=AOps.p (W.callF3 h0 h1 h2 h ht hf.h) hd k
theorem JU{x0:Operand}{v0:AV}{f:FuncId}{ats:Array TypeId}{r r':AV}{X p:Nat}{o o':AO}(h0:Rd none T x0 v0:=by rfl)(h:PO P f [v0] X o r o')(k:AOps ro P nt ops Q rest ⟨AL T dst r',AM S [(p,(X,o'))]⟩)(hSp:At S p (X,o):=by exact At.f)[hf:Frz r r'](ht:AY [(x0,v0)]=true:=by rfl)(hd:AD dst nt=true:=by rfl):AOps ro P nt ops Q (⟨dst,.call ⟨.value (.func f),#[x0],ats⟩,ty,pos,after,none⟩::rest) ⟨T,S⟩:=AOps.s (W.callO1 h0 hSp h ht hf.h) hd k
theorem AOps.o2{x0:Operand}{v0:AV}{x1:Operand}{v1:AV}{f:FuncId}{ats:Array TypeId}{r r':AV}{X p:Nat}{o o':AO}(h0:Rd none T x0 v0:=by rfl)(h1:Rd none T x1 v1:=by rfl)(h:PO P f [v0,v1] X o r o')(k:AOps ro P nt ops Q rest ⟨AL T dst r',AM S [(p,(X,o'))]⟩)(hSp:At S p (X,o):=by exact At.f)[hf:Frz r r'](ht:AY [(x0,v0),(x1,v1)]=true:=by rfl)(hd:AD dst nt=true:=by rfl):AOps ro P nt ops Q (⟨dst,.call ⟨.value (.func f),#[x0,x1],ats⟩,ty,pos,after,none⟩::rest) ⟨T,S⟩:=AOps.s (W.callO2 h0 h1 hSp h ht hf.h) hd k
theorem Me{x0:Operand}{v0:AV}{x1:Operand}{v1:AV}{x2:Operand}{v2:AV}{x3:Operand}{v3:AV}{f:FuncId}{ats:Array TypeId}{r r':AV}{X p:Nat}{o o':AO}(h0:Rd none T x0 v0:=by rfl)(h1:Rd none T x1 v1:=by rfl)(h2:Rd none T x2 v2:=by rfl)(h3:Rd none T x3 v3:=by rfl)(h:PO P f [v0,v1,v2,v3] X o r o')(k:AOps ro P nt ops Q rest ⟨AL T dst r',AM S [(p,(X,o'))]⟩)(hSp:At S p (X,o):=by exact At.f)[hf:Frz r r'](ht:AY [(x0,v0),(x1,v1),(x2,v2),(x3,v3)]=true:=by rfl)(hd:AD dst nt=true:=by rfl):AOps ro P nt ops Q (⟨dst,.call ⟨.value (.func f),#[x0,x1,x2,x3],ats⟩,ty,pos,after,none⟩::rest) ⟨T,S⟩:=AOps.s (W.callO4 h0 h1 h2 h3 hSp h ht hf.h) hd k
theorem Md{x0:Operand}{v0:AV}{x1:Operand}{v1:AV}{x2:Operand}{v2:AV}{x3:Operand}{v3:AV}{x4:Operand}{v4:AV}{f:FuncId}{ats:Array TypeId}{r r':AV}{X p:Nat}{o o':AO}(h0:Rd none T x0 v0:=by rfl)(h1:Rd none T x1 v1:=by rfl)(h2:Rd none T x2 v2:=by rfl)(h3:Rd none T x3 v3:=by rfl)(h4:Rd none T x4 v4:=by rfl)(h:PO P f [v0,v1,v2,v3,v4] X o r o')(k:AOps ro P nt ops Q rest ⟨AL T dst r',AM S [(p,(X,o'))]⟩)(hSp:At S p (X,o):=by exact At.f)[hf:Frz r r'](ht:AY [(x0,v0),(x1,v1),(x2,v2),(x3,v3),(x4,v4)]=true:=by rfl)(hd:AD dst nt=true:=by rfl):AOps ro P nt ops Q (⟨dst,.call ⟨.value (.func f),#[x0,x1,x2,x3,x4],ats⟩,ty,pos,after,none⟩::rest) ⟨T,S⟩:=AOps.s (W.callO5 h0 h1 h2 h3 h4 hSp h ht hf.h) hd k
end
end
section
variable {ro:Option Nat}
section
variable {P:Program}{nt:Nat}{ops:Array Oper}{Q:Exit->St->Prop}{rest:List Oper}{T:List (Nat×AV)}{S:List AA}{xs:List (Operand×AV)}{rS wS:List (Nat×AA)}{v:AV}{op:Op}{ty:TypeId}{pos:String}{after:Array Edge}{dst:Option Tmp}{l:List Oper}{acc:List Eff}
theorem RGo.go{g:Option (Nat×Bool)}{ts:List Nat}(k:RGo P nt ops l Q rest (acc++[⟨⟨dst,op,ty,pos,after,g⟩,ts++AW xs,rS.map (·.1),v,[]⟩]) ⟨AL T dst v,S⟩)(h:Stp none P ⟨dst,op,ty,pos,after,g⟩ T S xs rS v []:=by exact Gw)(hd:AD dst nt=true:=by rfl)(hg:Grd ops T g ts:=by first|exact .none|exact .met rfl rfl (by first|rfl|assumption)):RGo P nt ops l Q (⟨dst,op,ty,pos,after,g⟩::rest) acc ⟨T,S⟩:=Gx h hd hg k
theorem RGo.goS{g:Option (Nat×Bool)}{ts:List Nat}(k:RGo P nt ops l Q rest (acc++[⟨⟨dst,op,ty,pos,after,g⟩,ts++AW xs,rS.map (·.1),v,wS⟩]) ⟨AL T dst v,AM S wS⟩)(h:Stp none P ⟨dst,op,ty,pos,after,g⟩ T S xs rS v wS:=by exact Gv)(hd:AD dst nt=true:=by rfl)(hg:Grd ops T g ts:=by first|exact .none|exact .met rfl rfl (by first|rfl|assumption)):RGo P nt ops l Q (⟨dst,op,ty,pos,after,g⟩::rest) acc ⟨T,S⟩:=Cf h hd hg k
theorem RGo.goQ1{g:Nat}{b b':Bool}{t:Nat}(k:RGo P nt ops l Q rest (acc++[⟨⟨dst,op,ty,pos,after,some (g,b)⟩,t::AW xs,rS.map (·.1),(.opt (b'==b) v),[]⟩]) ⟨AL T dst (.opt (b'==b) v),S⟩)(ht:(ops[g]?).bind (·.dst)=some t:=by rfl)(hv:AQ T t=some (.prim (.bool b')):=by rfl)(h:Stp (some [b'==b]) P ⟨dst,op,ty,pos,after,some (g,b)⟩ T S xs rS v []:=by exact Bv)(hd:AD dst nt=true:=by rfl)(hos:BA xs=true:=by exact rfl):RGo P nt ops l Q (⟨dst,op,ty,pos,after,some (g,b)⟩::rest) acc ⟨T,S⟩:=RGo.sQ1 h ht hv hd hos k
theorem RGo.goQ2{c1:Bool}{g:Nat}{b b':Bool}{t:Nat}(k:RGo P nt ops l Q rest (acc++[⟨⟨dst,op,ty,pos,after,some (g,b)⟩,t::AW xs,rS.map (·.1),(.opt c1 (.opt (b'==b) v)),[]⟩]) ⟨AL T dst (.opt c1 (.opt (b'==b) v)),S⟩)(ht:(ops[g]?).bind (·.dst)=some t:=by rfl)(hv:AQ T t=some (.opt c1 (.prim (.bool b'))):=by rfl)(h:Stp (some [c1,b'==b]) P ⟨dst,op,ty,pos,after,some (g,b)⟩ T S xs rS v []:=by exact Bv)(hd:AD dst nt=true:=by rfl)(hos:BA xs=true:=by exact rfl):RGo P nt ops l Q (⟨dst,op,ty,pos,after,some (g,b)⟩::rest) acc ⟨T,S⟩:=RGo.sQ2 h ht hv hd hos k
theorem RGo.goQ3{c1 c2:Bool}{g:Nat}{b b':Bool}{t:Nat}(k:RGo P nt ops l Q rest (acc++[⟨⟨dst,op,ty,pos,after,some (g,b)⟩,t::AW xs,rS.map (·.1),(.opt c1 (.opt c2 (.opt (b'==b) v))),[]⟩]) ⟨AL T dst (.opt c1 (.opt c2 (.opt (b'==b) v))),S⟩)(ht:(ops[g]?).bind (·.dst)=some t:=by rfl)(hv:AQ T t=some (.opt c1 (.opt c2 (.prim (.bool b')))):=by rfl)(h:Stp (some [c1,c2,b'==b]) P ⟨dst,op,ty,pos,after,some (g,b)⟩ T S xs rS v []:=by exact Bv)(hd:AD dst nt=true:=by rfl)(hos:BA xs=true:=by exact rfl):RGo P nt ops l Q (⟨dst,op,ty,pos,after,some (g,b)⟩::rest) acc ⟨T,S⟩:=RGo.sQ3 h ht hv hd hos k
theorem RGo.goN{g:Nat}{b b':Bool}{t:Nat}(k:RGo P nt ops l Q rest (acc++[⟨⟨dst,op,ty,pos,after,some (g,b)⟩,[t],[],.dead,[]⟩]) ⟨AL T dst .dead,S⟩)(ht:(ops[g]?).bind (·.dst)=some t:=by rfl)(hv:AQ T t=some (.prim (.bool b')):=by rfl)(hb:b'= !b:=by first|rfl|assumption|(simp only[Bool.not_true,Bool.not_false];assumption))(hd:AD dst nt=true:=by rfl):RGo P nt ops l Q (⟨dst,op,ty,pos,after,some (g,b)⟩::rest) acc ⟨T,S⟩:=RGo.sN ht hv hb hd k
theorem Mb{g:Option (Nat×Bool)}{ts:List Nat}(k:RGo P nt ops l Q rest (acc++[⟨⟨dst,op,ty,pos,after,g⟩,ts++AW xs,rS.map (·.1),v,wS⟩]) ⟨AL T dst v,AM S wS⟩)(h:Stp none P ⟨dst,op,ty,pos,after,g⟩ T S xs rS v wS:=by first|(apply CD;exact W.allocN (by exact At.f) (by first|exact .inl rfl|exact .inr rfl) (by first|(dsimp only[zAV,List.map];try exact rfl)|exact rfl) (by exact rfl))|(apply Stp.g_box;exact W.box rfl (by exact At.f) rfl))(hd:AD dst nt=true:=by rfl)(hg:Grd ops T g ts:=by first|exact .none|exact .met rfl rfl (by first|rfl|assumption)):RGo P nt ops l Q (⟨dst,op,ty,pos,after,g⟩::rest) acc ⟨T,S⟩:=Cf h hd hg k
theorem RGo.k2{g:Option (Nat×Bool)}{ts:List Nat}{x0:Operand}{v0:AV}{x1:Operand}{v1:AV}{x:Operand}{f:FuncId}{cap:List AV}{ats:Array TypeId}{r r':AV}(hx:Rd none T x (.fn f cap):=by rfl)(h0:Rd none T x0 v0:=by rfl)(h1:Rd none T x1 v1:=by rfl)(h:PS P f (v0::v1::cap) r)(k:RGo P nt ops l Q rest (acc++[⟨⟨dst,.call ⟨.value x,#[x0,x1],ats⟩,ty,pos,after,g⟩,ts++AW [(x,.fn f cap),(x0,v0),(x1,v1)],[],r',[]⟩]) ⟨AL T dst r',S⟩)[hf:Frz r r'](hs:BN cap=true:=by first|rfl|assumption)(ht:AY [(x0,v0),(x1,v1)]=true:=by rfl)(hd:AD dst nt=true:=by rfl)(hg:Grd ops T g ts:=by first|exact .none|exact .met rfl rfl (by first|rfl|assumption)):RGo P nt ops l Q (⟨dst,.call ⟨.value x,#[x0,x1],ats⟩,ty,pos,after,g⟩::rest) acc ⟨T,S⟩:=Gx (W.callC2 hx h0 h1 h hs ht hf.h) hd hg k
theorem RGo.c1{g:Option (Nat×Bool)}{ts:List Nat}{x0:Operand}{v0:AV}{f:FuncId}{ats:Array TypeId}{r r':AV}(h0:Rd none T x0 v0:=by rfl)(h:PS P f [v0] r)(k:RGo P nt ops l Q rest (acc++[⟨⟨dst,.call ⟨.value (.func f),#[x0],ats⟩,ty,pos,after,g⟩,ts++AW [(x0,v0)],[],r',[]⟩]) ⟨AL T dst r',S⟩)[hf:Frz r r'](ht:AY [(x0,v0)]=true:=by rfl)(hd:AD dst nt=true:=by rfl)(hg:Grd ops T g ts:=by first|exact .none|exact .met rfl rfl (by first|rfl|assumption)):RGo P nt ops l Q (⟨dst,.call ⟨.value (.func f),#[x0],ats⟩,ty,pos,after,g⟩::rest) acc ⟨T,S⟩:=Gx (W.callF1 h0 h ht hf.h) hd hg k
theorem RGo.c2{g:Option (Nat×Bool)}{ts:List Nat}{x0:Operand}{v0:AV}{x1:Operand}{v1:AV}{f:FuncId}{ats:Array TypeId}{r r':AV}(h0:Rd none T x0 v0:=by rfl)(h1:Rd none T x1 v1:=by rfl)(h:PS P f [v0,v1] r)(k:RGo P nt ops l Q rest (acc++[⟨⟨dst,.call ⟨.value (.func f),#[x0,x1],ats⟩,ty,pos,after,g⟩,ts++AW [(x0,v0),(x1,v1)],[],r',[]⟩]) ⟨AL T dst r',S⟩)[hf:Frz r r'](ht:AY [(x0,v0),(x1,v1)]=true:=by rfl)(hd:AD dst nt=true:=by rfl)(hg:Grd ops T g ts:=by first|exact .none|exact .met rfl rfl (by first|rfl|assumption)):RGo P nt ops l Q (⟨dst,.call ⟨.value (.func f),#[x0,x1],ats⟩,ty,pos,after,g⟩::rest) acc ⟨T,S⟩:=Gx (W.callF2 h0 h1 h ht hf.h) hd hg k
theorem RGo.o2{g:Option (Nat×Bool)}{ts:List Nat}{x0:Operand}{v0:AV}{x1:Operand}{v1:AV}{f:FuncId}{ats:Array TypeId}{r r':AV}{X p:Nat}{o o':AO}(h0:Rd none T x0 v0:=by rfl)(h1:Rd none T x1 v1:=by rfl)(h:PO P f [v0,v1] X o r o')(k:RGo P nt ops l Q rest (acc++[⟨⟨dst,.call ⟨.value (.func f),#[x0,x1],ats⟩,ty,pos,after,g⟩,ts++AW [(x0,v0),(x1,v1)],[p],r',[(p,(X,o'))]⟩]) ⟨AL T dst r',AM S [(p,(X,o'))]⟩)(hSp:At S p (X,o):=by exact At.f)[hf:Frz r r'](ht:AY [(x0,v0),(x1,v1)]=true:=by rfl)(hd:AD dst nt=true:=by rfl)(hg:Grd ops T g ts:=by first|exact .none|exact .met rfl rfl (by first|rfl|assumption)):RGo P nt ops l Q (⟨dst,.call ⟨.value (.func f),#[x0,x1],ats⟩,ty,pos,after,g⟩::rest) acc ⟨T,S⟩:=Cf (W.callO2 h0 h1 hSp h ht hf.h) hd hg k
end
section
variable {P:Program}{nt:Nat}{ops:Array Oper}{Q:Exit->St->Prop}{rest:List Oper}{T:List (Nat×AV)}{S:List AA}{xs:List (Operand×AV)}{rS wS:List (Nat×AA)}{v:AV}{op:Op}{ty:TypeId}{pos:String}{after:Array Edge}{dst:Option Tmp}
theorem Do{xs:Nat->List (Operand×AV)}{rS wS:Nat->List (Nat×AA)}{v:Nat->AV}(k:∀X,AOps ro P nt ops Q rest ⟨AL T dst (v X),AM ((X,.gone)::S) (wS X)⟩)(h:∀X,Stp none P ⟨dst,op,ty,pos,after,none⟩ T ((X,.gone)::S) (xs X) (rS X) (v X) (wS X):=by(intro X;first|(apply CD;exact W.allocN .here (by first|exact .inl rfl|exact .inr rfl) (by first|(dsimp only[zAV,List.map];try exact rfl)|exact rfl) (by exact rfl))|(apply Stp.g_box;exact W.box rfl .here rfl)))(hd:AD dst nt=true:=by rfl):AOps ro P nt ops Q (⟨dst,op,ty,pos,after,none⟩::rest) ⟨T,S⟩:=AOps.rs λX=>AOps.s (h X) hd (k X)
end
section
variable {P:Program}{nt:Nat}{ops:Array Oper}{Q:Exit->St->Prop}{rest:List Oper}{T:List (Nat×AV)}{S:List AA}{l ls:List AV}{ty t t' te:TypeId}{sz X p q:Nat}{x y:Operand}{pos:String}{after:Array Edge}{dst:Option Tmp}
theorem MY{m b:Nat}(h:m<=1099511627776)(hb:b<=128):m*b<=140737488355328:=Nat.le_trans (Nat.mul_le_mul h hb) (by decide)
theorem Nb{m b:Nat}(h:m*b<=140737488355328)(hb:0<b):m<=maxLen:=Nat.le_trans (Nat.le_trans (Nat.le_mul_of_pos_right m hb) h) (by decide)
theorem AOps.goA{m by_:Nat}[TRo P t te sz by_](k:∀Y,AOps ro P nt ops Q rest ⟨AL T dst (.sl Y 0 (m+ls.length)),S.set p (Y,.row te sz (l++ls))⟩)(hx:Rd none T x (.sl X 0 m):=by rfl)(hy:Rd none T y (.lst false t' sz ls):=by rfl)(hSp:At S p (X,.row te sz l):=by exact At.f)(hn:m=l.length:=by first|rfl|assumption|omega|(simp;omega)|simp[*])(hb:(m+ls.length)*by_<=140737488355328:=by first|assumption|exact MY (by first|assumption|omega|(simp;omega)) (by decide)|omega|(simp;omega))(hby:0<by_:=by decide)(hd:AD dst nt=true:=by rfl):AOps ro P nt ops Q (⟨dst,.call ⟨.builtin .append,#[x,y],#[t,t]⟩,ty,pos,after,none⟩::rest) ⟨T,S⟩:=by
 subst hn;refine AOps.rs λY=>AOps.s (W.app (q:=0) (p:=p+1) (X:=X) (Y:=Y) hx hy .here (.next hSp) rfl hb (Nb hb hby) (by simp)) hd (AOps.sub ?_ (k Y))
 ·exact .cons _ (.refl _)
theorem RGo.goA{l0:List Oper}{acc:List Eff}{m by_ Y:Nat}[TRo P t te sz by_](k:RGo P nt ops l0 Q rest (acc++[⟨⟨dst,.call ⟨.builtin .append,#[x,y],#[t,t]⟩,ty,pos,after,none⟩,AW [(x,.sl X 0 m),(y,.lst false t' sz ls)],[q,p],.sl Y 0 (m+ls.length),[(q,(X,.used)),(p,(Y,.row te sz (l++ls)))]⟩]) ⟨AL T dst (.sl Y 0 (m+ls.length)),AM S [(q,(X,.used)),(p,(Y,.row te sz (l++ls)))]⟩)(hx:Rd none T x (.sl X 0 m):=by rfl)(hy:Rd none T y (.lst false t' sz ls):=by rfl)(hSq:At S q (Y,.gone):=by exact At.f)(hSp:At S p (X,.row te sz l):=by exact At.f)(hn:m=l.length:=by first|rfl|assumption|omega|(simp;omega)|simp[*])(hb:(m+ls.length)*by_<=140737488355328:=by first|assumption|exact MY (by first|assumption|omega|(simp;omega)) (by decide)|omega|(simp;omega))(hqp:q≠p:=by decide)(hby:0<by_:=by decide)(hd:AD dst nt=true:=by rfl):RGo P nt ops l0 Q (⟨dst,.call ⟨.builtin .append,#[x,y],#[t,t]⟩,ty,pos,after,none⟩::rest) acc ⟨T,S⟩:=by
 subst hn;exact RGo.s (W.app hx hy hSq hSp rfl hb (Nb hb hby) hqp) hd k
theorem AOps.goL{zl:List Value}{ag:Bool}(v:AV)(k:AOps ro P nt ops Q rest ⟨AL T dst (.lst false te sz [v]),S⟩)[TEl P t te][TZe P te zl][TSize P te sz][TAg P te ag][hz:Frz v v](h0:Rd none T x v:=by exact rfl)(hzs:zl.length=sz:=by exact rfl)(hag:ag=true\/zl.length=1:=by first|exact .inl rfl|exact .inr rfl)(hn:1*sz<=16777216:=by decide)(hpos:0<1*sz:=by decide)(hf:Bi sz (List.replicate 1 (zAV zl ag)) [(0,v)]=some [v]:=by exact rfl)(hd:AD dst nt=true:=by rfl):AOps ro P nt ops Q (⟨dst,.buildSlice t 1 #[(0,x)],ty,pos,after,none⟩::rest) ⟨T,S⟩:=
 AOps.p (W.litF1 h0 hzs hag hn hpos hf) hd k
theorem RGo.goL{l0:List Oper}{acc:List Eff}{zl:List Value}{ag:Bool}(v:AV)(k:RGo P nt ops l0 Q rest (acc++[⟨⟨dst,.buildSlice t 1 #[(0,x)],ty,pos,after,none⟩,AW [(x,v)],[],.lst false te sz [v],[]⟩]) ⟨AL T dst (.lst false te sz [v]),S⟩)[TEl P t te][TZe P te zl][TSize P te sz][TAg P te ag][hz:Frz v v](h0:Rd none T x v:=by exact rfl)(hzs:zl.length=sz:=by exact rfl)(hag:ag=true\/zl.length=1:=by first|exact .inl rfl|exact .inr rfl)(hn:1*sz<=16777216:=by decide)(hpos:0<1*sz:=by decide)(hf:Bi sz (List.replicate 1 (zAV zl ag)) [(0,v)]=some [v]:=by exact rfl)(hd:AD dst nt=true:=by rfl):RGo P nt ops l0 Q (⟨dst,.buildSlice t 1 #[(0,x)],ty,pos,after,none⟩::rest) acc ⟨T,S⟩:=
 RGo.p (W.litF1 h0 hzs hag hn hpos hf) hd k
theorem AOps.g_lit{n:Nat}{ar:Array (Nat×Operand)}{st:St}{g:Option (Nat×Bool)}(k:AOps ro P nt ops Q (⟨dst,.buildSlice t n ar,ty,pos,after,g⟩::rest) st):AOps ro P nt ops Q (⟨dst,.buildSlice t n ar,ty,pos,after,g⟩::rest) st:=k
theorem RGo.g_lit{l0:List Oper}{acc:List Eff}{n:Nat}{ar:Array (Nat×Operand)}{st:St}{g:Option (Nat×Bool)}(k:RGo P nt ops l0 Q (⟨dst,.buildSlice t n ar,ty,pos,after,g⟩::rest) acc st):RGo P nt ops l0 Q (⟨dst,.buildSlice t n ar,ty,pos,after,g⟩::rest) acc st:=k
theorem AOps.g_callv{d:Nat}{xs:Array Operand}{ats:Array TypeId}{st:St}{g:Option (Nat×Bool)}(k:AOps ro P nt ops Q (⟨dst,.call ⟨.value (.tmp d),xs,ats⟩,ty,pos,after,g⟩::rest) st):AOps ro P nt ops Q (⟨dst,.call ⟨.value (.tmp d),xs,ats⟩,ty,pos,after,g⟩::rest) st:=k
theorem RGo.g_callv{l0:List Oper}{acc:List Eff}{d:Nat}{xs:Array Operand}{ats:Array TypeId}{st:St}{g:Option (Nat×Bool)}(k:RGo P nt ops l0 Q (⟨dst,.call ⟨.value (.tmp d),xs,ats⟩,ty,pos,after,g⟩::rest) acc st):RGo P nt ops l0 Q (⟨dst,.call ⟨.value (.tmp d),xs,ats⟩,ty,pos,after,g⟩::rest) acc st:=k
theorem AOps.g_callf{f:FuncId}{xs:Array Operand}{ats:Array TypeId}{st:St}{g:Option (Nat×Bool)}(k:AOps ro P nt ops Q (⟨dst,.call ⟨.value (.func f),xs,ats⟩,ty,pos,after,g⟩::rest) st):AOps ro P nt ops Q (⟨dst,.call ⟨.value (.func f),xs,ats⟩,ty,pos,after,g⟩::rest) st:=k
theorem RGo.g_callf{l0:List Oper}{acc:List Eff}{f:FuncId}{xs:Array Operand}{ats:Array TypeId}{st:St}{g:Option (Nat×Bool)}(k:RGo P nt ops l0 Q (⟨dst,.call ⟨.value (.func f),xs,ats⟩,ty,pos,after,g⟩::rest) acc st):RGo P nt ops l0 Q (⟨dst,.call ⟨.value (.func f),xs,ats⟩,ty,pos,after,g⟩::rest) acc st:=k
end
section
variable {P:Program}{nt:Nat}{ops:Array Oper}{Q:Exit->St->Prop}{l rest:List Oper}{acc:List Eff}{st:St}{op:Op}{ty:TypeId}{pos:String}{after:Array Edge}{dst:Option Tmp}
theorem AOps.gN(k:AOps ro P nt ops Q (⟨dst,op,ty,pos,after,none⟩::rest) st):AOps ro P nt ops Q (⟨dst,op,ty,pos,after,none⟩::rest) st:=k
theorem RGo.gN(k:RGo P nt ops l Q (⟨dst,op,ty,pos,after,none⟩::rest) acc st):RGo P nt ops l Q (⟨dst,op,ty,pos,after,none⟩::rest) acc st:=k
end
theorem Bq{P:Program}{nt:Nat}{Q:Exit->St->Prop}{c:Code}{st:St}{β:Type}(inv:β->St)(R:β->Prop)(μ:β->Nat)(b0:β)(hR:R b0)(round:∀b,R b->AWP ro P nt c (andThen (λst'=>∃b',R b' /\μ b'<μ b/\st'.Le (inv b')) Q) (inv b))(h0:st.Le (inv b0):=by exact⟨by exact Lk.f,by exact Sub.f⟩):AWP ro P nt (.loop c) Q st:=A5 inv R μ b0 hR h0 round
theorem Br{β:Type}{R:β->Prop}{μ:β->Nat}{m:Nat}{inv:β->St}{st:St}(b':β)(hR:R b')(hμ:μ b'<m:=by omega)(h0:st.Le (inv b'):=by exact⟨by exact Lk.f,by exact Sub.f⟩):∃b',R b' /\μ b'<m/\st.Le (inv b'):=⟨b',hR,hμ,h0⟩
theorem A3{P:Program}{nt:Nat}{Q:Exit->St->Prop}{c:Code}{st:St}{β0 β1:Type}(inv:β0->β1->St)(R:β0->β1->Prop)(μ:β0->β1->Nat)(c0:β0)(c1:β1)(hR:R c0 c1)(round:∀b0 b1,R b0 b1->AWP ro P nt c (andThen (λst'=>∃b0' b1',R b0' b1' /\μ b0' b1'<μ b0 b1/\st'.Le (inv b0' b1')) Q) (inv b0 b1))(h0:st.Le (inv c0 c1):=by exact⟨by exact Lk.f,by exact Sub.f⟩):AWP ro P nt (.loop c) Q st:=
 A5 (β:=β0×β1) (λb=>inv b.1 b.2) (λb=>R b.1 b.2) (λb=>μ b.1 b.2) (c0,c1) hR h0 λb hb=>(round b.1 b.2 hb).mono λe st' h=>by
  cases e with
  |normal=>obtain⟨b0',b1',h1,h2,h3⟩:=h;exact⟨(b0',b1'),h1,h2,h3⟩
  |_=>exact h
theorem Ae{β0 β1:Type}{R:β0->β1->Prop}{μ:β0->β1->Nat}{m:Nat}{inv:β0->β1->St}{st:St}(b0':β0)(b1':β1)(hR:R b0' b1')(hμ:μ b0' b1'<m:=by omega)(h0:st.Le (inv b0' b1'):=by exact⟨by exact Lk.f,by exact Sub.f⟩):∃b0' b1',R b0' b1' /\μ b0' b1'<m/\st.Le (inv b0' b1'):=⟨b0',b1',hR,hμ,h0⟩
theorem Mc{P:Program}{nt:Nat}{Q:Exit->St->Prop}{c:Code}{st:St}{β0 β1 β2:Type}(inv:β0->β1->β2->St)(R:β0->β1->β2->Prop)(μ:β0->β1->β2->Nat)(c0:β0)(c1:β1)(c2:β2)(hR:R c0 c1 c2)(round:∀b0 b1 b2,R b0 b1 b2->AWP ro P nt c (andThen (λst'=>∃b0' b1' b2',R b0' b1' b2' /\μ b0' b1' b2'<μ b0 b1 b2/\st'.Le (inv b0' b1' b2')) Q) (inv b0 b1 b2))(h0:st.Le (inv c0 c1 c2):=by exact⟨by exact Lk.f,by exact Sub.f⟩):AWP ro P nt (.loop c) Q st:=
 A5 (β:=β0×β1×β2) (λb=>inv b.1 b.2.1 b.2.2) (λb=>R b.1 b.2.1 b.2.2) (λb=>μ b.1 b.2.1 b.2.2) (c0,c1,c2) hR h0 λb hb=>(round b.1 b.2.1 b.2.2 hb).mono λe st' h=>by
  cases e with
  |normal=>obtain⟨b0',b1',b2',h1,h2,h3⟩:=h;exact⟨(b0',b1',b2'),h1,h2,h3⟩
  |_=>exact h
theorem Hd{β0 β1 β2:Type}{R:β0->β1->β2->Prop}{μ:β0->β1->β2->Nat}{m:Nat}{inv:β0->β1->β2->St}{st:St}(b0':β0)(b1':β1)(b2':β2)(hR:R b0' b1' b2')(hμ:μ b0' b1' b2'<m:=by omega)(h0:st.Le (inv b0' b1' b2'):=by exact⟨by exact Lk.f,by exact Sub.f⟩):∃b0' b1' b2',R b0' b1' b2' /\μ b0' b1' b2'<m/\st.Le (inv b0' b1' b2'):=⟨b0',b1',b2',hR,hμ,h0⟩
theorem Ek{P:Program}{nt:Nat}{Q:Exit->St->Prop}{c:Code}{st:St}{β0 β1 β2 β3:Type}(inv:β0->β1->β2->β3->St)(R:β0->β1->β2->β3->Prop)(μ:β0->β1->β2->β3->Nat)(c0:β0)(c1:β1)(c2:β2)(c3:β3)(hR:R c0 c1 c2 c3)(round:∀b0 b1 b2 b3,R b0 b1 b2 b3->AWP ro P nt c (andThen (λst'=>∃b0' b1' b2' b3',R b0' b1' b2' b3' /\μ b0' b1' b2' b3'<μ b0 b1 b2 b3/\st'.Le (inv b0' b1' b2' b3')) Q) (inv b0 b1 b2 b3))(h0:st.Le (inv c0 c1 c2 c3):=by exact⟨by exact Lk.f,by exact Sub.f⟩):AWP ro P nt (.loop c) Q st:=
 A5 (β:=β0×β1×β2×β3) (λb=>inv b.1 b.2.1 b.2.2.1 b.2.2.2) (λb=>R b.1 b.2.1 b.2.2.1 b.2.2.2) (λb=>μ b.1 b.2.1 b.2.2.1 b.2.2.2) (c0,c1,c2,c3) hR h0 λb hb=>(round b.1 b.2.1 b.2.2.1 b.2.2.2 hb).mono λe st' h=>by
  cases e with
  |normal=>obtain⟨b0',b1',b2',b3',h1,h2,h3⟩:=h;exact⟨(b0',b1',b2',b3'),h1,h2,h3⟩
  |_=>exact h
theorem Co{β0 β1 β2 β3:Type}{R:β0->β1->β2->β3->Prop}{μ:β0->β1->β2->β3->Nat}{m:Nat}{inv:β0->β1->β2->β3->St}{st:St}(b0':β0)(b1':β1)(b2':β2)(b3':β3)(hR:R b0' b1' b2' b3')(hμ:μ b0' b1' b2' b3'<m:=by omega)(h0:st.Le (inv b0' b1' b2' b3'):=by exact⟨by exact Lk.f,by exact Sub.f⟩):∃b0' b1' b2' b3',R b0' b1' b2' b3' /\μ b0' b1' b2' b3'<m/\st.Le (inv b0' b1' b2' b3'):=⟨b0',b1',b2',b3',hR,hμ,h0⟩
theorem Ej{P:Program}{nt:Nat}{Q:Exit->St->Prop}{c:Code}{st:St}{β0 β1 β2 β3 β4:Type}(inv:β0->β1->β2->β3->β4->St)(R:β0->β1->β2->β3->β4->Prop)(μ:β0->β1->β2->β3->β4->Nat)(c0:β0)(c1:β1)(c2:β2)(c3:β3)(c4:β4)(hR:R c0 c1 c2 c3 c4)(round:∀b0 b1 b2 b3 b4,R b0 b1 b2 b3 b4->AWP ro P nt c (andThen (λst'=>∃b0' b1' b2' b3' b4',R b0' b1' b2' b3' b4' /\μ b0' b1' b2' b3' b4'<μ b0 b1 b2 b3 b4/\st'.Le (inv b0' b1' b2' b3' b4')) Q) (inv b0 b1 b2 b3 b4))(h0:st.Le (inv c0 c1 c2 c3 c4):=by exact⟨by exact Lk.f,by exact Sub.f⟩):AWP ro P nt (.loop c) Q st:=
 A5 (β:=β0×β1×β2×β3×β4) (λb=>inv b.1 b.2.1 b.2.2.1 b.2.2.2.1 b.2.2.2.2) (λb=>R b.1 b.2.1 b.2.2.1 b.2.2.2.1 b.2.2.2.2) (λb=>μ b.1 b.2.1 b.2.2.1 b.2.2.2.1 b.2.2.2.2) (c0,c1,c2,c3,c4) hR h0 λb hb=>(round b.1 b.2.1 b.2.2.1 b.2.2.2.1 b.2.2.2.2 hb).mono λe st' h=>by
  cases e with
  |normal=>obtain⟨b0',b1',b2',b3',b4',h1,h2,h3⟩:=h;exact⟨(b0',b1',b2',b3',b4'),h1,h2,h3⟩
  |_=>exact h
theorem CO{β0 β1 β2 β3 β4:Type}{R:β0->β1->β2->β3->β4->Prop}{μ:β0->β1->β2->β3->β4->Nat}{m:Nat}{inv:β0->β1->β2->β3->β4->St}{st:St}(b0':β0)(b1':β1)(b2':β2)(b3':β3)(b4':β4)(hR:R b0' b1' b2' b3' b4')(hμ:μ b0' b1' b2' b3' b4'<m:=by omega)(h0:st.Le (inv b0' b1' b2' b3' b4'):=by exact⟨by exact Lk.f,by exact Sub.f⟩):∃b0' b1' b2' b3' b4',R b0' b1' b2' b3' b4' /\μ b0' b1' b2' b3' b4'<m/\st.Le (inv b0' b1' b2' b3' b4'):=⟨b0',b1',b2',b3',b4',hR,hμ,h0⟩
theorem JT{P:Program}{nt:Nat}{Q:Exit->St->Prop}{c:Code}{st:St}{β0 β1 β2 β3 β4 β5 β6:Type}(inv:β0->β1->β2->β3->β4->β5->β6->St)(R:β0->β1->β2->β3->β4->β5->β6->Prop)(μ:β0->β1->β2->β3->β4->β5->β6->Nat)(c0:β0)(c1:β1)(c2:β2)(c3:β3)(c4:β4)(c5:β5)(c6:β6)(hR:R c0 c1 c2 c3 c4 c5 c6)(round:∀b0 b1 b2 b3 b4 b5 b6,R b0 b1 b2 b3 b4 b5 b6->AWP ro P nt c (andThen (λst'=>∃b0' b1' b2' b3' b4' b5' b6',R b0' b1' b2' b3' b4' b5' b6' /\μ b0' b1' b2' b3' b4' b5' b6'<μ b0 b1 b2 b3 b4 b5 b6/\st'.Le (inv b0' b1' b2' b3' b4' b5' b6')) Q) (inv b0 b1 b2 b3 b4 b5 b6))(h0:st.Le (inv c0 c1 c2 c3 c4 c5 c6):=by exact⟨by exact Lk.f,by exact Sub.f⟩):AWP ro P nt (.loop c) Q st:=
 A5 (β:=β0×β1×β2×β3×β4×β5×β6) (λb=>inv b.1 b.2.1 b.2.2.1 b.2.2.2.1 b.2.2.2.2.1 b.2.2.2.2.2.1 b.2.2.2.2.2.2) (λb=>R b.1 b.2.1 b.2.2.1 b.2.2.2.1 b.2.2.2.2.1 b.2.2.2.2.2.1 b.2.2.2.2.2.2) (λb=>μ b.1 b.2.1 b.2.2.1 b.2.2.2.1 b.2.2.2.2.1 b.2.2.2.2.2.1 b.2.2.2.2.2.2) (c0,c1,c2,c3,c4,c5,c6) hR h0 λb hb=>(round b.1 b.2.1 b.2.2.1 b.2.2.2.1 b.2.2.2.2.1 b.2.2.2.2.2.1 b.2.2.2.2.2.2 hb).mono λe st' h=>by
  cases e with
  |normal=>obtain⟨b0',b1',b2',b3',b4',b5',b6',h1,h2,h3⟩:=h;exact⟨(b0',b1',b2',b3',b4',b5',b6'),h1,h2,h3⟩
  |_=>exact h
theorem Db{β0 β1 β2 β3 β4 β5 β6:Type}{R:β0->β1->β2->β3->β4->β5->β6->Prop}{μ:β0->β1->β2->β3->β4->β5->β6->Nat}{m:Nat}{inv:β0->β1->β2->β3->β4->β5->β6->St}{st:St}(b0':β0)(b1':β1)(b2':β2)(b3':β3)(b4':β4)(b5':β5)(b6':β6)(hR:R b0' b1' b2' b3' b4' b5' b6')(hμ:μ b0' b1' b2' b3' b4' b5' b6'<m:=by omega)(h0:st.Le (inv b0' b1' b2' b3' b4' b5' b6'):=by exact⟨by exact Lk.f,by exact Sub.f⟩):∃b0' b1' b2' b3' b4' b5' b6',R b0' b1' b2' b3' b4' b5' b6' /\μ b0' b1' b2' b3' b4' b5' b6'<m/\st.Le (inv b0' b1' b2' b3' b4' b5' b6'):=⟨b0',b1',b2',b3',b4',b5',b6',hR,hμ,h0⟩
theorem AF{P:Program}{t:Nat}{Sf:List AA}{st:St}{a r:AV}(e:a=r)(h:AQ st.T t=some a:=by rfl)(ha:ntup a=true:=by rfl)(hS:Sf.Sublist st.S:=by exact Sub.f):Ends P [.tmp t] Sf (λr' S'=>r'=r/\S'=[]) st:=AR h ha hS ⟨e,rfl⟩
theorem Lj(S:List AA):∀as:List AV,CVs S as as S
 |[]=>.nil
 |_::as=>.cons (.cell .same) (Lj S as)
theorem AOps.met{P:Program}{nt:Nat}{ops:Array Oper}{Q:Exit->St->Prop}{rest:List Oper}{st:St}{op:Op}{ty:TypeId}{pos:String}{after:Array Edge}{dst:Option Tmp}{g:Nat}{b b':Bool}{t:Nat}(k:AOps ro P nt ops Q (⟨dst,op,ty,pos,after,none⟩::rest) st)(ht:(ops[g]?).bind (·.dst)=some t:=by rfl)(hv:AQ st.T t=some (.prim (.bool b')):=by rfl)(hb:b'=b:=by first|rfl|assumption):AOps ro P nt ops Q (⟨dst,op,ty,pos,after,some (g,b)⟩::rest) st:=by
 intro m0 a w hr;have h:=k m0 a w hr
 have hy:yielded ops a.tmps g=some b:=by
  obtain⟨m,N,Z,h1,h2,h3,h4,h5,h6⟩:=hr;obtain⟨u,hu1,hu2⟩:=h6 t _ hv;obtain⟨⟨e,_⟩,_⟩:=hu2;injection e with e
  subst e hb;simp[yielded,ht,hu1]
 unfold wpListIn at h⊢;rw[if_pos (by simp[Region.wanted])]at h;rw[if_pos (by simp[Region.wanted,hy])];exact h
structure All(p:Nat->Prop):Prop where
 i::
 h:∀X,p X
structure AllY(p:Nat->Prop):Prop where
 i::
 h:∀X,p X
section
variable {P:Program}{nt:Nat}{ops:Array Oper}{Q:Exit->St->Prop}{rest:List Oper}{T:List (Nat×AV)}{S:List AA}{xs:List (Operand×AV)}{rS wS:List (Nat×AA)}{v:AV}{op:Op}{ty:TypeId}{pos:String}{after:Array Edge}{dst:Option Tmp}{t t2 t' te:TypeId}{x y z:Operand}{g:Option (Nat×Bool)}{st:St}{c:Code}{l ls:List AV}{sz X p q:Nat}
theorem GL{xs:Nat->List (Operand×AV)}{rS wS:Nat->List (Nat×AA)}{v:Nat->AV}(h:∀X,Stp none P ⟨dst,op,ty,pos,after,none⟩ T ((X,.gone)::S) (xs X) (rS X) (v X) (wS X):=by(intro X;first|(apply CD;exact W.allocN .here (by first|exact .inl rfl|exact .inr rfl) (by first|(dsimp only[zAV,List.map];try exact rfl)|exact rfl) (by exact rfl))|(apply Stp.g_box;exact W.box rfl .here rfl)))(hd:AD dst nt=true:=by rfl):(All λX=>AOps ro P nt ops Q rest ⟨AL T dst (v X),AM ((X,.gone)::S) (wS X)⟩)->AOps ro P nt ops Q (⟨dst,op,ty,pos,after,none⟩::rest) ⟨T,S⟩:=λk=>Do k.h h hd
theorem KU{m by_:Nat}[TRo P t te sz by_](hx:Rd none T x (.sl X 0 m):=by rfl)(hy:Rd none T y (.lst false t' sz ls):=by rfl)(hSp:At S p (X,.row te sz l):=by exact At.f)(hn:m=l.length:=by first|rfl|assumption|omega|(simp;omega)|simp[*])(hb:(m+ls.length)*by_<=140737488355328:=by first|assumption|exact MY (by first|assumption|omega|(simp;omega)) (by decide)|omega|(simp;omega))(hby:0<by_:=by decide)(hd:AD dst nt=true:=by rfl):(AllY λY=>AOps ro P nt ops Q rest ⟨AL T dst (.sl Y 0 (m+ls.length)),S.set p (Y,.row te sz (l++ls))⟩)->AOps ro P nt ops Q (⟨dst,.call ⟨.builtin .append,#[x,y],#[t,t]⟩,ty,pos,after,none⟩::rest) ⟨T,S⟩:=λk=>AOps.goA k.h hx hy hSp hn hb hby hd
end
section
variable {P:Program}{nt:Nat}{ops:Array Oper}{Q:Exit->St->Prop}{rest:List Oper}{T:List (Nat×AV)}{S:List AA}{xs:List (Operand×AV)}{rS wS:List (Nat×AA)}{v:AV}{op:Op}{ty:TypeId}{pos:String}{after:Array Edge}{dst:Option Tmp}{t t2 t' te:TypeId}{x y z:Operand}{g:Option (Nat×Bool)}{st:St}{c:Code}{l ls:List AV}{sz X p q:Nat}
theorem AOps.go_(h:Stp none P ⟨dst,op,ty,pos,after,none⟩ T S xs rS v []:=by exact Gw)(hd:AD dst nt=true:=by rfl):(AOps ro P nt ops Q rest ⟨AL T dst v,S⟩)->AOps ro P nt ops Q (⟨dst,op,ty,pos,after,none⟩::rest) ⟨T,S⟩:=λk=>AOps.go (k:=k) (h:=h) (hd:=hd)
theorem AOps.goS_(h:Stp none P ⟨dst,op,ty,pos,after,none⟩ T S xs rS v wS:=by exact Gv)(hd:AD dst nt=true:=by rfl):(AOps ro P nt ops Q rest ⟨AL T dst v,AM S wS⟩)->AOps ro P nt ops Q (⟨dst,op,ty,pos,after,none⟩::rest) ⟨T,S⟩:=λk=>AOps.goS (k:=k) (h:=h) (hd:=hd)
theorem KR{P:Program}{nt:Nat}{ops:Array Oper}{Q:Exit->St->Prop}{rest:List Oper}{st:St}{op:Op}{ty:TypeId}{pos:String}{after:Array Edge}{dst:Option Tmp}{g:Nat}{b b':Bool}{t:Nat}(ht:(ops[g]?).bind (·.dst)=some t:=by rfl)(hv:AQ st.T t=some (.prim (.bool b')):=by rfl)(hb:b'=b:=by first|rfl|assumption):(AOps ro P nt ops Q (⟨dst,op,ty,pos,after,none⟩::rest) st)->AOps ro P nt ops Q (⟨dst,op,ty,pos,after,some (g,b)⟩::rest) st:=λk=>AOps.met (k:=k) (ht:=ht) (hv:=hv) (hb:=hb)
theorem AOps.goN_{g:Nat}{b b':Bool}{t:Nat}(ht:(ops[g]?).bind (·.dst)=some t:=by rfl)(hv:AQ T t=some (.prim (.bool b')):=by rfl)(hb:b'= !b:=by first|rfl|assumption|(simp only[Bool.not_true,Bool.not_false];assumption))(hd:AD dst nt=true:=by rfl):(AOps ro P nt ops Q rest ⟨AL T dst .dead,S⟩)->AOps ro P nt ops Q (⟨dst,op,ty,pos,after,some (g,b)⟩::rest) ⟨T,S⟩:=λk=>AOps.goN (k:=k) (ht:=ht) (hv:=hv) (hb:=hb) (hd:=hd)
theorem AOps.goQ1_{g:Nat}{b b':Bool}{t:Nat}(ht:(ops[g]?).bind (·.dst)=some t:=by rfl)(hv:AQ T t=some (.prim (.bool b')):=by rfl)(h:Stp (some [b'==b]) P ⟨dst,op,ty,pos,after,some (g,b)⟩ T S xs rS v []:=by exact Bv)(hd:AD dst nt=true:=by rfl)(hos:BA xs=true:=by exact rfl):(AOps ro P nt ops Q rest ⟨AL T dst (.opt (b'==b) v),S⟩)->AOps ro P nt ops Q (⟨dst,op,ty,pos,after,some (g,b)⟩::rest) ⟨T,S⟩:=λk=>AOps.goQ1 (k:=k) (ht:=ht) (hv:=hv) (h:=h) (hd:=hd) (hos:=hos)
theorem AOps.goQ2_{c1:Bool}{g:Nat}{b b':Bool}{t:Nat}(ht:(ops[g]?).bind (·.dst)=some t:=by rfl)(hv:AQ T t=some (.opt c1 (.prim (.bool b'))):=by rfl)(h:Stp (some [c1,b'==b]) P ⟨dst,op,ty,pos,after,some (g,b)⟩ T S xs rS v []:=by exact Bv)(hd:AD dst nt=true:=by rfl)(hos:BA xs=true:=by exact rfl):(AOps ro P nt ops Q rest ⟨AL T dst (.opt c1 (.opt (b'==b) v)),S⟩)->AOps ro P nt ops Q (⟨dst,op,ty,pos,after,some (g,b)⟩::rest) ⟨T,S⟩:=λk=>AOps.goQ2 (k:=k) (ht:=ht) (hv:=hv) (h:=h) (hd:=hd) (hos:=hos)
theorem AOps.goQ3_{c1 c2:Bool}{g:Nat}{b b':Bool}{t:Nat}(ht:(ops[g]?).bind (·.dst)=some t:=by rfl)(hv:AQ T t=some (.opt c1 (.opt c2 (.prim (.bool b')))):=by rfl)(h:Stp (some [c1,c2,b'==b]) P ⟨dst,op,ty,pos,after,some (g,b)⟩ T S xs rS v []:=by exact Bv)(hd:AD dst nt=true:=by rfl)(hos:BA xs=true:=by exact rfl):(AOps ro P nt ops Q rest ⟨AL T dst (.opt c1 (.opt c2 (.opt (b'==b) v))),S⟩)->AOps ro P nt ops Q (⟨dst,op,ty,pos,after,some (g,b)⟩::rest) ⟨T,S⟩:=λk=>AOps.goQ3 (k:=k) (ht:=ht) (hv:=hv) (h:=h) (hd:=hd) (hos:=hos)
end
section
variable {P:Program}{nt:Nat}{ops:Array Oper}{Q:Exit->St->Prop}{rest:List Oper}{T:List (Nat×AV)}{S:List AA}{xs:List (Operand×AV)}{rS wS:List (Nat×AA)}{v:AV}{op:Op}{ty:TypeId}{pos:String}{after:Array Edge}{dst:Option Tmp}{t t2 t' te:TypeId}{x y z:Operand}{st:St}{c:Code}{l:List Oper}{acc:List Eff}
theorem RGo.go_{g:Option (Nat×Bool)}{ts:List Nat}(h:Stp none P ⟨dst,op,ty,pos,after,g⟩ T S xs rS v []:=by exact Gw)(hd:AD dst nt=true:=by rfl)(hg:Grd ops T g ts:=by first|exact .none|exact .met rfl rfl (by first|rfl|assumption)):(RGo P nt ops l Q rest (acc++[⟨⟨dst,op,ty,pos,after,g⟩,ts++AW xs,rS.map (·.1),v,[]⟩]) ⟨AL T dst v,S⟩)->RGo P nt ops l Q (⟨dst,op,ty,pos,after,g⟩::rest) acc ⟨T,S⟩:=λk=>RGo.go (k:=k) (h:=h) (hd:=hd) (hg:=hg)
theorem RGo.goS_{g:Option (Nat×Bool)}{ts:List Nat}(h:Stp none P ⟨dst,op,ty,pos,after,g⟩ T S xs rS v wS:=by exact Gv)(hd:AD dst nt=true:=by rfl)(hg:Grd ops T g ts:=by first|exact .none|exact .met rfl rfl (by first|rfl|assumption)):(RGo P nt ops l Q rest (acc++[⟨⟨dst,op,ty,pos,after,g⟩,ts++AW xs,rS.map (·.1),v,wS⟩]) ⟨AL T dst v,AM S wS⟩)->RGo P nt ops l Q (⟨dst,op,ty,pos,after,g⟩::rest) acc ⟨T,S⟩:=λk=>RGo.goS (k:=k) (h:=h) (hd:=hd) (hg:=hg)
theorem RGo.goN_{g:Nat}{b b':Bool}{t:Nat}(ht:(ops[g]?).bind (·.dst)=some t:=by rfl)(hv:AQ T t=some (.prim (.bool b')):=by rfl)(hb:b'= !b:=by first|rfl|assumption|(simp only[Bool.not_true,Bool.not_false];assumption))(hd:AD dst nt=true:=by rfl):(RGo P nt ops l Q rest (acc++[⟨⟨dst,op,ty,pos,after,some (g,b)⟩,[t],[],.dead,[]⟩]) ⟨AL T dst .dead,S⟩)->RGo P nt ops l Q (⟨dst,op,ty,pos,after,some (g,b)⟩::rest) acc ⟨T,S⟩:=λk=>RGo.goN (k:=k) (ht:=ht) (hv:=hv) (hb:=hb) (hd:=hd)
theorem RGo.goQ1_{g:Nat}{b b':Bool}{t:Nat}(ht:(ops[g]?).bind (·.dst)=some t:=by rfl)(hv:AQ T t=some (.prim (.bool b')):=by rfl)(h:Stp (some [b'==b]) P ⟨dst,op,ty,pos,after,some (g,b)⟩ T S xs rS v []:=by exact Bv)(hd:AD dst nt=true:=by rfl)(hos:BA xs=true:=by exact rfl):(RGo P nt ops l Q rest (acc++[⟨⟨dst,op,ty,pos,after,some (g,b)⟩,t::AW xs,rS.map (·.1),(.opt (b'==b) v),[]⟩]) ⟨AL T dst (.opt (b'==b) v),S⟩)->RGo P nt ops l Q (⟨dst,op,ty,pos,after,some (g,b)⟩::rest) acc ⟨T,S⟩:=λk=>RGo.goQ1 (k:=k) (ht:=ht) (hv:=hv) (h:=h) (hd:=hd) (hos:=hos)
theorem RGo.goQ2_{c1:Bool}{g:Nat}{b b':Bool}{t:Nat}(ht:(ops[g]?).bind (·.dst)=some t:=by rfl)(hv:AQ T t=some (.opt c1 (.prim (.bool b'))):=by rfl)(h:Stp (some [c1,b'==b]) P ⟨dst,op,ty,pos,after,some (g,b)⟩ T S xs rS v []:=by exact Bv)(hd:AD dst nt=true:=by rfl)(hos:BA xs=true:=by exact rfl):(RGo P nt ops l Q rest (acc++[⟨⟨dst,op,ty,pos,after,some (g,b)⟩,t::AW xs,rS.map (·.1),(.opt c1 (.opt (b'==b) v)),[]⟩]) ⟨AL T dst (.opt c1 (.opt (b'==b) v)),S⟩)->RGo P nt ops l Q (⟨dst,op,ty,pos,after,some (g,b)⟩::rest) acc ⟨T,S⟩:=λk=>RGo.goQ2 (k:=k) (ht:=ht) (hv:=hv) (h:=h) (hd:=hd) (hos:=hos)
theorem RGo.goQ3_{c1 c2:Bool}{g:Nat}{b b':Bool}{t:Nat}(ht:(ops[g]?).bind (·.dst)=some t:=by rfl)(hv:AQ T t=some (.opt c1 (.opt c2 (.prim (.bool b')))):=by rfl)(h:Stp (some [c1,c2,b'==b]) P ⟨dst,op,ty,pos,after,some (g,b)⟩ T S xs rS v []:=by exact Bv)(hd:AD dst nt=true:=by rfl)(hos:BA xs=true:=by exact rfl):(RGo P nt ops l Q rest (acc++[⟨⟨dst,op,ty,pos,after,some (g,b)⟩,t::AW xs,rS.map (·.1),(.opt c1 (.opt c2 (.opt (b'==b) v))),[]⟩]) ⟨AL T dst (.opt c1 (.opt c2 (.opt (b'==b) v))),S⟩)->RGo P nt ops l Q (⟨dst,op,ty,pos,after,some (g,b)⟩::rest) acc ⟨T,S⟩:=λk=>RGo.goQ3 (k:=k) (ht:=ht) (hv:=hv) (h:=h) (hd:=hd) (hos:=hos)
theorem Dl{g:Option (Nat×Bool)}{ts:List Nat}(h:Stp none P ⟨dst,op,ty,pos,after,g⟩ T S xs rS v wS:=by first|(apply CD;exact W.allocN (by exact At.f) (by first|exact .inl rfl|exact .inr rfl) (by first|(dsimp only[zAV,List.map];try exact rfl)|exact rfl) (by exact rfl))|(apply Stp.g_box;exact W.box rfl (by exact At.f) rfl))(hd:AD dst nt=true:=by rfl)(hg:Grd ops T g ts:=by first|exact .none|exact .met rfl rfl (by first|rfl|assumption)):(RGo P nt ops l Q rest (acc++[⟨⟨dst,op,ty,pos,after,g⟩,ts++AW xs,rS.map (·.1),v,wS⟩]) ⟨AL T dst v,AM S wS⟩)->RGo P nt ops l Q (⟨dst,op,ty,pos,after,g⟩::rest) acc ⟨T,S⟩:=λk=>Mb (k:=k) (h:=h) (hd:=hd) (hg:=hg)
end
section
variable {P:Program}{nt:Nat}{ops:Array Oper}{Q:Exit->St->Prop}{rest:List Oper}{T:List (Nat×AV)}{S:List AA}{xs:List (Operand×AV)}{rS wS:List (Nat×AA)}{v:AV}{op:Op}{ty:TypeId}{pos:String}{after:Array Edge}{dst:Option Tmp}{t t2 t' te:TypeId}{x y z:Operand}{st:St}{c:Code}{l ls:List AV}{sz X p q:Nat}
theorem IA{l0:List Oper}{acc:List Eff}{m by_ Y:Nat}[TRo P t te sz by_](hx:Rd none T x (.sl X 0 m):=by rfl)(hy:Rd none T y (.lst false t' sz ls):=by rfl)(hSq:At S q (Y,.gone):=by exact At.f)(hSp:At S p (X,.row te sz l):=by exact At.f)(hn:m=l.length:=by first|rfl|assumption|omega|(simp;omega)|simp[*])(hb:(m+ls.length)*by_<=140737488355328:=by first|assumption|exact MY (by first|assumption|omega|(simp;omega)) (by decide)|omega|(simp;omega))(hqp:q≠p:=by decide)(hby:0<by_:=by decide)(hd:AD dst nt=true:=by rfl):(RGo P nt ops l0 Q rest (acc++[⟨⟨dst,.call ⟨.builtin .append,#[x,y],#[t,t]⟩,ty,pos,after,none⟩,AW [(x,.sl X 0 m),(y,.lst false t' sz ls)],[q,p],.sl Y 0 (m+ls.length),[(q,(X,.used)),(p,(Y,.row te sz (l++ls)))]⟩]) ⟨AL T dst (.sl Y 0 (m+ls.length)),AM S [(q,(X,.used)),(p,(Y,.row te sz (l++ls)))]⟩)->RGo P nt ops l0 Q (⟨dst,.call ⟨.builtin .append,#[x,y],#[t,t]⟩,ty,pos,after,none⟩::rest) acc ⟨T,S⟩:=λk=>RGo.goA (k:=k) (hx:=hx) (hy:=hy) (hSq:=hSq) (hSp:=hSp) (hn:=hn) (hb:=hb) (hqp:=hqp) (hby:=hby) (hd:=hd)
end
section
variable {P:Program}{nt:Nat}{ops:Array Oper}{Q:Exit->St->Prop}{rest:List Oper}{T:List (Nat×AV)}{S:List AA}{xs:List (Operand×AV)}{rS wS:List (Nat×AA)}{v:AV}{op:Op}{ty:TypeId}{pos:String}{after:Array Edge}{dst:Option Tmp}{t t2 t' te:TypeId}{x y z:Operand}{g:Option (Nat×Bool)}{st:St}{c:Code}{l:List Oper}{acc:List Eff}{B:Prop}{gd:Nat×Bool}
theorem AOps.jN(k:B->AOps ro P nt ops Q (⟨dst,op,ty,pos,after,none⟩::rest) st):B->AOps ro P nt ops Q (⟨dst,op,ty,pos,after,none⟩::rest) st:=k
theorem AOps.jQ(k:B->AOps ro P nt ops Q (⟨dst,op,ty,pos,after,some gd⟩::rest) st):B->AOps ro P nt ops Q (⟨dst,op,ty,pos,after,some gd⟩::rest) st:=k
theorem AOps.j_store(k:B->AOps ro P nt ops Q (⟨dst,.store t x y,ty,pos,after,g⟩::rest) st):B->AOps ro P nt ops Q (⟨dst,.store t x y,ty,pos,after,g⟩::rest) st:=k
theorem AOps.j_alloc(k:B->AOps ro P nt ops Q (⟨dst,.alloc t,ty,pos,after,g⟩::rest) st):B->AOps ro P nt ops Q (⟨dst,.alloc t,ty,pos,after,g⟩::rest) st:=k
theorem AOps.j_box(k:B->AOps ro P nt ops Q (⟨dst,.box t x,ty,pos,after,g⟩::rest) st):B->AOps ro P nt ops Q (⟨dst,.box t x,ty,pos,after,g⟩::rest) st:=k
theorem AOps.j_append(k:B->AOps ro P nt ops Q (⟨dst,.call ⟨.builtin .append,#[x,y],#[t,t]⟩,ty,pos,after,g⟩::rest) st):B->AOps ro P nt ops Q (⟨dst,.call ⟨.builtin .append,#[x,y],#[t,t]⟩,ty,pos,after,g⟩::rest) st:=k
theorem RGo.jN(k:B->RGo P nt ops l Q (⟨dst,op,ty,pos,after,none⟩::rest) acc st):B->RGo P nt ops l Q (⟨dst,op,ty,pos,after,none⟩::rest) acc st:=k
theorem RGo.jQ(k:B->RGo P nt ops l Q (⟨dst,op,ty,pos,after,some gd⟩::rest) acc st):B->RGo P nt ops l Q (⟨dst,op,ty,pos,after,some gd⟩::rest) acc st:=k
theorem RGo.j_store(k:B->RGo P nt ops l Q (⟨dst,.store t x y,ty,pos,after,g⟩::rest) acc st):B->RGo P nt ops l Q (⟨dst,.store t x y,ty,pos,after,g⟩::rest) acc st:=k
theorem RGo.j_alloc(k:B->RGo P nt ops l Q (⟨dst,.alloc t,ty,pos,after,g⟩::rest) acc st):B->RGo P nt ops l Q (⟨dst,.alloc t,ty,pos,after,g⟩::rest) acc st:=k
theorem RGo.j_box(k:B->RGo P nt ops l Q (⟨dst,.box t x,ty,pos,after,g⟩::rest) acc st):B->RGo P nt ops l Q (⟨dst,.box t x,ty,pos,after,g⟩::rest) acc st:=k
theorem RGo.j_append(k:B->RGo P nt ops l Q (⟨dst,.call ⟨.builtin .append,#[x,y],#[t,t]⟩,ty,pos,after,g⟩::rest) acc st):B->RGo P nt ops l Q (⟨dst,.call ⟨.builtin .append,#[x,y],#[t,t]⟩,ty,pos,after,g⟩::rest) acc st:=k
end
theorem WO_{A B:Prop}(h:B->A:=by first|(apply AOps.jN;first|(apply AOps.j_store;exact AOps.goS_)|(apply AOps.j_alloc;exact GL)|(apply AOps.j_box;exact GL)|(apply AOps.j_append;exact KU)|exact AOps.go_)|(apply AOps.jQ;first|exact KR|exact AOps.goN_|exact AOps.goQ1_|exact AOps.goQ2_|exact AOps.goQ3_)):B->A:=h
theorem WO{A B:Prop}(k:B)(h:B->A:=by exact WO_):A:=h k
theorem WF_{A B:Prop}(h:B->A:=by first|exact AWP.seq|exact AWP.skip|exact AWP.block|exact AWP.exit|exact GD|exact Mi|exact GE|exact Mj|exact LB rfl):B->A:=h
theorem WF{A B:Prop}(k:B)(h:B->A:=by exact WF_):A:=h k
theorem WN{A B:Prop}(k:B)(h:B->A:=by first|exact GD|exact Mi|exact GE|exact Mj|exact LB rfl):A:=h k
theorem WK{A B:Prop}(k:B)(h:B->A:=by first|exact WO_|exact AOps.nil|exact WF_|exact AWP.region):A:=h k
theorem RK{A B:Prop}(k:B)(h:B->A:=by first|(apply RGo.jN;first|(apply RGo.j_store;exact RGo.goS_)|(apply RGo.j_append;exact IA)|(apply RGo.j_alloc;exact Dl)|(apply RGo.j_box;exact Dl)|exact RGo.go_)|(apply RGo.jQ;first|(apply RGo.j_store;exact RGo.goS_)|(apply RGo.j_append;exact IA)|(apply RGo.j_alloc;exact Dl)|(apply RGo.j_box;exact Dl)|exact RGo.go_|exact RGo.goN_|exact RGo.goQ1_|exact RGo.goQ2_|exact RGo.goQ3_)):A:=h k
theorem RG{A B:Prop}(k:B)(h:B->A:=by(intro b;(repeat refine WF ?_);refine AWP.region ?_;exact b)):A:=h k
theorem RU{A B:Prop}(k:B)(h:B->A:=by(intro b;(repeat refine WF ?_);refine AWP.region_run (by kernel_rfl) (by kernel_rfl) ?_;exact b)):A:=h k
theorem Ai{p:Nat->Prop}(h:∀X,p X):All p:=⟨h⟩
theorem Ay{p:Nat->Prop}(h:∀X,p X):AllY p:=⟨h⟩
theorem NL{A B:Prop}(k:B)(h:B->A:=by(intro b;refine AOps.nil ?_;(repeat refine WN ?_);exact b)):A:=h k
theorem FL{A B:Prop}(k:B)(h:B->A:=by(intro b;(repeat first|refine AOps.nil ?_|refine WF ?_);exact b)):A:=h k
theorem RT{A B:Prop}(k:B)(h:B->A:=by(intro b;refine AWP.ret ?_;(repeat (first|refine NV ?_|refine KO ?_));refine Mt ?_;exact b)):A:=h k
end
section
variable {ro:Option Nat}
open Go.RowKit
theorem Bs{α β:Type}{f:α->β}:∀{Z:List α} {A B:List β},Z.map f=A++B->∃ZA ZB,Z=ZA++ZB/\ZA.map f=A/\ZB.map f=B
 |Z,[],B,h=>⟨[],Z,rfl,rfl,h⟩
 |[],a::A,B,h=>by simp at h
 |z::Z,a::A,B,h=>by
  simp only[List.map_cons,List.cons_append,List.cons.injEq]at h;obtain⟨ZA,ZB,e,h1,h2⟩:=Bs h.2;exact⟨z::ZA,ZB,by simp[e],by simp[h.1,h1],h2⟩
abbrev YO:=Nat->List AV×List AA
section
variable {P:Program}{nt:Nat}{ops:Array Oper}{Q:Exit->St->Prop}{rest:List Oper}{T:List (Nat×AV)}{S Si Sl Sf:List AA}{y:Value}{xs:List YO}{J:Nat->List AA->Prop}{Jx:List AA->Prop}
variable {dst:Option Tmp}{ty:TypeId}{pos:String}{after:Array Edge}{x:Operand}{ys:List (Operand×AV)}{ats:Array TypeId}{i:Nat}
end
section
variable {P:Program}{nt:Nat}{ops:Array Oper}{Q:Exit->St->Prop}{rest:List Oper}{T:List (Nat×AV)}{S Si Sl Sf:List AA}{y:Value}{xs:List (List AV)}{J:Nat->List AA->Prop}{Jx:List AA->Prop}
variable {dst:Option Tmp}{ty:TypeId}{pos:String}{after:Array Edge}{x:Operand}{ys:List (Operand×AV)}{ats:Array TypeId}{i:Nat}
theorem Mo{m0 m:Mem}{N:Nat}{R:Zs}{ex:List Nat}(G:Good m0 m N R ex)(o:Obj)(m':Mem)(hm':m'=⟨m.μ,λy=>m.U y\/y=N,m.w.alloc o,m.F⟩):
  Good m0 m' (N+1) (((N,.raw m.w.heap.size o),[m.w.heap.size])::R) ex/\m.Le m':=by
 subst hm';have hle:m.Le ⟨m.μ,λy=>m.U y\/y=N,m.w.alloc o,m.F⟩:=⟨λy h=>.inl h,λ_ _ _ h=>h,λb hb=>⟨hb,Below.heap_alloc _ _ _ (G.frz b hb)⟩⟩;refine⟨Good.swap (zs:=[]) (zs':=[((N,.raw m.w.heap.size o),[m.w.heap.size])]) (R:=R) (ex:=ex) (ex':=ex) G hle (by omega) (λy _ _=>rfl) (λb hb _ _=>Below.heap_alloc _ _ _ hb) ?_ ?_ ?_ ?_ ?_ ?_ ?_ rfl rfl rfl (by simp),hle⟩
 ·intro z hz
  simp only[List.mem_singleton]at hz;subst hz;exact⟨rfl,.inr rfl,World.alloc_heap_new _ _⟩
 ·refine List.nodup_append.2 ⟨by simp[Zs.own],(List.nodup_append.1 G.own).2.1,λb hb c hc e=>?_⟩
  simp only[Zs.own,List.flatMap_cons,List.flatMap_nil,List.append_nil,List.mem_singleton]at hb;have:=(G.blk c (by simp[hc])).1;omega
 ·intro b hb
  simp only[Zs.own,List.flatMap_cons,List.flatMap_nil,List.append_nil,List.mem_append,List.mem_singleton]at hb;rcases hb with rfl|hb
  ·exact⟨by simp,λh=>Nat.lt_irrefl _ (G.frz _ h),.inr (.inr (Nat.le_refl _))⟩
  ·have:=G.blk b (by simp[hb])
   exact⟨by have:=this.1;simp;omega,this.2,.inr (.inl hb)⟩
 ·intro b hb
  exact⟨by have:=G.frz b hb;simp;omega,.inl hb⟩
 ·simp[Zs.keys]
 ·intro y hy
  simp only[Zs.keys,List.map_cons,List.map_nil,List.mem_singleton]at hy;subst hy;exact⟨by omega,.inr (Nat.le_refl _)⟩
 ·intro y hy
  rcases hy with hy|rfl
  ·have:=G.usedN y hy;exact⟨by omega,.inl hy⟩
  ·exact⟨by omega,.inr (.inr (Nat.le_refl _))⟩
theorem Good.note{m0 m:Mem}{N:Nat}{R:Zs}{ex:List Nat}(G:Good m0 m N R ex)(K:AV->Value->Prop)(hK:∀v u,K v u->VV m v u [])(m':Mem)(hm':m'={m with U:=λy=>m.U y\/y=N}):
  Good m0 m' (N+1) (((N,.tv K),[])::R) ex/\m.Le m':=by
 subst hm';have hle:m.Le {m with U:=λy=>m.U y\/y=N}:=⟨λy h=>.inl h,λ_ _ _ h=>h,λb hb=>⟨hb,rfl⟩⟩;refine⟨Good.one (zs:=[]) (zs':=[((N,.tv K),[])]) (R:=R) G _ (N+1) rfl rfl hle (by omega) (λy _ hy=>rfl) ?_ rfl (by simp[Zs.keys]) ?_ ?_,hle⟩
 ·intro z hz
  simp only[List.mem_singleton]at hz;subst hz;exact⟨rfl,.inr rfl,λv u h=>(hK v u h).mono hle (by simp)⟩
 ·intro y hy
  simp only[Zs.keys,List.map_cons,List.map_nil,List.mem_singleton]at hy;subst hy;exact⟨by omega,.inr (Nat.le_refl _)⟩
 ·intro y hy
  rcases hy with hy|rfl
  ·have:=G.usedN y hy;exact⟨by omega,.inl hy⟩
  ·exact⟨by omega,.inr (.inr (Nat.le_refl _))⟩
end
section
variable {P:Program}{nt:Nat}{m0 m:Mem}
end
end
section
variable {ro:Option Nat}
open Go.RowKit
section
variable {P:Program}{nt:Nat}{ops:Array Oper}
end
end
section
variable {ro:Option Nat}
open Go.RowKit
theorem K6{β:Type}{R:β->Prop}{μ:β->Nat}{m:Nat}{inv:β->St}{st:St}(b':β)(hR:R b')(hS:(inv b').S.Sublist st.S)(hμ:μ b'<m:=by omega)(hT:Looks st.T (inv b').T:=by exact(by(repeat (first|exact .nil|refine .cons (by first|rfl|assumption) ?_)))):∃b',R b' /\μ b'<m/\st.Le (inv b'):=⟨b',hR,hμ,hT,hS⟩
section
variable {P:Program}{nt:Nat}{ops:Array Oper}{Q:Exit->St->Prop}{rest:List Oper}{T:List (Nat×AV)}{S:List AA}{dst:Option Tmp}{ty t te:TypeId}{pos:String}{after:Array Edge}{g:Option (Nat×Bool)}{x y:Operand}{X p sz:Nat}{l:List AV}
theorem Lf(he:BM P t=some te)(hsz:tSz P te=some sz):OpT P ⟨dst,.buildSlice t 0 #[],ty,pos,after,g⟩ [] [(p,(X,.gone))] (.sl X 0 0) [(p,(X,.row te sz []))]:=by
 refine OpT.new_ (λm a hx=>?_);refine⟨#[],0,.slice (some ⟨m.w.heap.size,0,none⟩) 0 0,?_,by simp,by simp,by decide,by simp,⟨by simp,rfl⟩,.inr ⟨0,rfl,Nat.le_refl _,rfl⟩⟩
 have hr:(Instr.buildSlice t 0 #[]).run P m.w= .ok (.slice (some ⟨m.w.heap.size,0,none⟩) 0 0) (m.w.alloc (.cells #[] te)):=by
  simp[Instr.buildSlice,run_underlying (Ar he),Bb hsz,Sem.run_bind,Result.andThen_ok,Sem.run_pure,Instr.fill,newRow];rw[show∀f:Nat->Value,Array.map f (Array.range 0)=#[]from λf=>Array.size_eq_zero_iff.1 (by simp)]
 simp[execOp,Sem.run_bind,hr,Sem.run_pure,Result.andThen_ok]
theorem Lm{o:Oper}{xs:List (Operand×AV)}{K:AV->Prop}(hg:o.guard=none)(hnd:∀c,o.op≠ .defer c)(h:∀(m:Mem) (a:Act),(∀q∈xs,VV m q.2 (a.eval q.1) [])->∃u v,(execOp a.eval o).run P m.w= .ok (.value u) m.w/\VV m v u []/\K v)(hx:Evs T xs)(hd:AD o.dst nt=true)
  (k:∀v,K v->AOps ro P nt ops Q rest ⟨AL T o.dst v,S⟩):AOps ro P nt ops Q (o::rest) ⟨T,S⟩:=by
 rintro m0 a w ⟨m,N,Z,rfl,h2,h3,h4⟩;refine wpListIn_plain hg λK' hK=>⟨λ_ _=>trivial,?_⟩
 obtain⟨u,v,h5,h6,h7⟩:=h m a λq hq=>h4.ev (hx.all q hq)
 rw[Oper.semAt_eq _ _ _ hnd,h5];exact hK _ _ (k v h7 m0 _ _ ⟨m,N,Z,rfl,h2,h3,h4.put (BH hd) h6⟩)
theorem AOps.isNil[TEl P t te](k:∀b:Bool,(b=true->l=[])->AOps ro P nt ops Q rest ⟨AL T dst (.prim (.bool b)),S⟩){t':TypeId}(hx:ev T x=some (.lst false t' sz l):=by rfl)(hd:AD dst nt=true:=by rfl):AOps ro P nt ops Q (⟨dst,.binOp .eql t x (.const (.slice none 0 0)) t,ty,pos,after,none⟩::rest) ⟨T,S⟩:=by
 refine Lm (xs:=[(x,.lst false t' sz l)]) (K:=λv=>∃b:Bool,(b=true->l=[])/\v= .prim (.bool b)) rfl (by simp) (λm a hv=>?_) (.cons hx .nil) hd λv ⟨b,hb,e⟩=>e▸k b hb
 obtain⟨_,A,cap,e1,_,_,h0⟩:=hv _ (List.mem_cons_self ..);injection e1 with e1
 simp only at e1;refine⟨.bool A.isNone,.prim (.bool A.isNone),?_,Au _,A.isNone,λhn=>?_,rfl⟩
 ·have:=Lib.run_eql_slice_nil (P:=P) m.w t te A l.length cap 0 0 (Ar TEl.h)
  have hc:a.eval (.const (.slice none 0 0))= .slice none 0 0:=rfl;have hq:(eqGuard .eql t x (.const (.slice none 0 0)) (.slice A l.length cap) (.slice none 0 0)).run P m.w= .ok () m.w:=rfl;simp[execOp,e1,hc,Sem.run_bind,Sem.run_pure,Result.andThen_ok,this,hq]
 ·cases l with
  |nil=>rfl
  |cons a l=>
   obtain⟨b,off,arr,t,r,e2,_⟩:=h0 (by simp);rw[e2]at hn;cases hn
theorem KT[TEl P t te][TSize P te sz](k:∀X,AOps ro P nt ops Q rest ⟨AL T dst (.sl X 0 0),(X,.row te sz [])::S⟩)(hd:AD dst nt=true:=by rfl):AOps ro P nt ops Q (⟨dst,.buildSlice t 0 #[],ty,pos,after,none⟩::rest) ⟨T,S⟩:=
 AOps.rs λX=>AOps.step (o:=⟨dst,.buildSlice t 0 #[],ty,pos,after,none⟩) (xs:=[]) (rS:=[(0,(X,.gone))]) rfl (Lf TEl.h TSize.h) .nil (.cons .here .nil) hd (k X)
section
variable {Si Sl Sf:List AA}{yv:Value}{xs:List (List AV)}{J:Nat->List AA->Prop}{Jx:List AA->Prop}{ats:Array TypeId}{i:Nat}{x0 x1:Operand}{v0 v1:AV}
end
theorem Dn{kk kk':IntKind}{zl:List Value}{ag:Bool}{m by_:Nat}{i j:Int}(a:AV)[TEl P t te][TZe P te zl][TSize P te sz][TAg P te ag][TBy P te by_](k:∀X,AOps ro P nt ops Q rest ⟨AL T dst (.sl X 0 m),(X,.row te sz (List.replicate m a))::S⟩)
  (hx:Rd none T x (.prim (.int kk i)):=by rfl) (hy:Rd none T y (.prim (.int kk' j)):=by rfl) (hq:i=(m:Int):=by rfl) (hq':j=(m:Int):=by rfl) (hm:m<=1099511627776:=by first|assumption|omega|(simp;omega)) (hby:by_<=128:=by decide) (hzs:zl.length=sz:=by exact rfl) (hag:ag=true\/zl.length=1:=by first|exact .inl rfl|exact .inr rfl) (hz:zAV zl ag=a:=by exact rfl) (hd:AD dst nt=true:=by rfl):AOps ro P nt ops Q (⟨dst,.makeSlice t x y,ty,pos,after,none⟩::rest) ⟨T,S⟩:=by
 subst hz;exact AOps.rs λX=>AOps.s (W.make hx hy .here hzs hag hq hq' (Nat.le_refl _) (Nat.le_trans (Nat.mul_le_mul hby hm) (by decide)) (Nat.le_trans hm (by decide))) hd (k X)
theorem CG{st:St}(k:AOps ro P nt ops Q (⟨dst,.makeSlice t x y,ty,pos,after,g⟩::rest) st):AOps ro P nt ops Q (⟨dst,.makeSlice t x y,ty,pos,after,g⟩::rest) st:=k
end
end
theorem C5{P:Program}{Sf:List AA}{Q:AV->List AA->Prop}{st:St}(S':List AA)(hQ:Q (.tup []) S')(hS:(S'++Sf).Sublist st.S:=by(repeat (first|exact List.Sublist.refl _|exact List.Sublist.slnil|apply List.Sublist.cons_cons|apply List.Sublist.cons))):Ends P [] Sf Q st:=⟨[],[],st.S,S',.nil,.nil,hS,hQ⟩
section
variable {ro:Option Nat}
open Go.RowKit
def C6{β:Type}(Z:List β):List (Nat×β)->List β
 |[]=>Z
 |q::r=>C6 (Z.set q.1 q.2) r
theorem Ko{β:Type}(wz:List (Nat×β)):∀Z:List β,(C6 Z wz).length=Z.length:=by
 induction wz with
 |nil=>intro Z;rfl
 |cons q r ih=>intro Z;simp[C6,ih]
theorem Iz{β:Type}(wz:List (Nat×β)){p:Nat}(h:p∉wz.map (·.1)):∀Z:List β,(C6 Z wz)[p]?=Z[p]?:=by
 induction wz with
 |nil=>intro Z;rfl
 |cons q r ih=>
  intro Z;simp only[List.map_cons,List.mem_cons,not_or]at h;rw[C6,ih h.2,List.getElem?_set_ne (λe=>h.1 e.symm)]
theorem L0{β:Type}(wz:List (Nat×β))(hnd:(wz.map (·.1)).Nodup):∀Z:List β,(∀q∈wz,q.1<Z.length)->∀q∈wz,(C6 Z wz)[q.1]?=some q.2:=by
 induction wz with
 |nil=>intro Z _ q hq;cases hq
 |cons a r ih=>
  intro Z hlt q hq;rw[List.map_cons,List.nodup_cons]at hnd;rcases List.mem_cons.1 hq with rfl|hq
  ·rw[C6,Iz r hnd.1,List.getElem?_set_self (hlt _ (by simp))]
  ·exact ih hnd.2 _ (λq hq=>by rw[List.length_set];exact hlt q (by simp[hq])) q hq
theorem HK(wS:List (Nat×AA)):∀S,AM S wS=C6 S wS:=by
 induction wS with
 |nil=>intro S;rfl
 |cons q r ih=>intro S;exact ih _
theorem HP{l k:List Nat}(hl:l.Nodup)(hk:k.Nodup)(h:∀x,x∈l↔x∈k):l.Perm k:=by
 rw[List.perm_iff_count];intro a;rw[hl.count,hk.count];simp only[h a]
theorem Fc{β:Type}(Z:List β):(List.range Z.length).map (λi=>Z[i]?)=Z.map some:=by
 apply List.ext_getElem (by simp);intro i h1 h2;have:i<Z.length:=by simpa using h1
 simp[this]
theorem Jp{β:Type}(Z:List β)(ps:List Nat)(hnd:ps.Nodup)(hlt:∀p∈ps,p<Z.length):∃R,∀wz:List (Nat×β),wz.map (·.1)=ps->(C6 Z wz).Perm (wz.map (·.2)++R):=by
 let Q:=(List.range Z.length).filter λi=>!decide (i∈ps)
 refine⟨Q.filterMap λi=>Z[i]?,λwz hw=>?_⟩;have hwn:(wz.map (·.1)).Nodup:=by rw[hw];exact hnd
 have hwl:∀q∈wz,q.1<Z.length:=λq hq=>hlt _ (by rw[<-hw];exact List.mem_map_of_mem hq)
 have h1:(List.range Z.length).Perm (ps++Q):=by
  refine(List.filter_append_perm (λi=>decide (i∈ps)) (List.range Z.length)).symm.trans ?_;refine List.Perm.append_right _ (HP (List.nodup_range.filter _) hnd λx=>?_);simp only[List.mem_filter,List.mem_range,decide_eq_true_eq];exact⟨λh=>h.2,λh=>⟨hlt x h,h⟩⟩
 have h2:((C6 Z wz).map some).Perm ((ps++Q).map λi=>(C6 Z wz)[i]?):=by
  rw[<-Fc,Ko];exact h1.map _
 have h3:ps.map (λi=>(C6 Z wz)[i]?)=(wz.map (·.2)).map some:=by
  rw[<-hw,List.map_map,List.map_map];exact List.map_congr_left λq hq=>L0 wz hwn Z hwl q hq
 have h4:Q.map (λi=>(C6 Z wz)[i]?)=(Q.filterMap λi=>Z[i]?).map some:=by
  have:∀L:List Nat,(∀i∈L,i∉ps/\i<Z.length)->L.map (λi=>(C6 Z wz)[i]?)=(L.filterMap λi=>Z[i]?).map some:=by
   intro L
   induction L with
   |nil=>intro _;rfl
   |cons i L ih=>
    intro h;have hi:=h i (by simp);rw[List.map_cons,ih λj hj=>h j (by simp[hj]),Iz wz (by rw[hw];exact hi.1),List.getElem?_eq_getElem hi.2,List.filterMap_cons,List.getElem?_eq_getElem hi.2];rfl
  refine this Q λi hi=>?_
  have:=List.mem_filter.1 hi;simpa using And.comm.1 this
 rw[List.map_append,h3,h4,<-List.map_append]at h2;have h5:=h2.filterMap id;simpa[List.filterMap_map]using h5
inductive TW:AV->AV->List AA->Prop
 |frz {a:AV}:TW a a.frz []
 |lst {t:TypeId} {sz:Nat} {l:List AV} {Y n:Nat} (h:n=l.length):TW (.lst true t sz l) (.sl Y 0 n) [(Y,.row t sz l)]
 |bx {t:TypeId} {a:AV} {Y n:Nat} (h:n=a.width):TW (.bx t a) (.ptr Y 0 0) [(Y,.row t n [a])]
inductive TWs:List AV->List AV->List AA->Prop
 |nil:TWs [] [] []
 |cons {a b:AV} {as bs:List AV} {s r:List AA} (h:TW a b s) (k:TWs as bs r):TWs (a::as) (b::bs) (s++r)
inductive TV:AV->AV->List AA->Prop
 |cell {a b:AV} {s:List AA} (h:TW a b s) (ha:Eg a=true) (hb:Eg b=true):TV a b s
 |agg {as bs:List AV} {s:List AA} (h:TWs as bs s):TV (.agg as) (.agg bs) s
inductive TVs:List AV->List AV->List AA->Prop
 |nil:TVs [] [] []
 |cons {a b:AV} {as bs:List AV} {s r:List AA} (h:TV a b s) (ha:ntup a=true) (hb:ntup b=true) (k:TVs as bs r):TVs (a::as) (b::bs) (s++r)
inductive TR:AV->AV->List AA->Prop
 |frz {a:AV}:TR a a.frz []
 |v {a b:AV} {s:List AA} (h:TV a b s):TR a b s
 |tup {as bs:List AV} {s:List AA} (h:TVs as bs s):TR (.tup as) (.tup bs) s
def Ap(s:List AA):List AA:=s.map λe=>(e.1,.gone)
section
variable {m0 m:Mem}{N:Nat}{R:Zs}{ex:List Nat}
theorem EF{Y:Nat}{bsY br:List Nat}{t:TypeId}{sz:Nat}{l:List AV}(G:Good m0 m N (((Y,.gone),bsY)::R) (br++ex))(L:Loc)(hL:L.sz=sz)
  (h:(L.isNil=true/\l=[]/\br=[])\/(L.isNil=false/\∃arr bs',br=L.blk::bs' /\m.w.heap[L.blk]?=some (.cells arr t (0,0))/\arr.size=L.cap*sz/\l.length<=L.cap/\L.cap<=maxLen/\(∀e∈l,e.width=sz)/\VCs m l (arr.toList.take (l.length*sz)) bs')):
  Good m0 ⟨λy=>if y=Y then some L else m.μ y,λy=>m.U y\/y=Y,m.w,m.F⟩ N (((Y,.row t sz l),br)::R) ex/\m.Le ⟨λy=>if y=Y then some L else m.μ y,λy=>m.U y\/y=Y,m.w,m.F⟩:=by
 have hg:=G.obj _ (List.mem_cons_self ..);obtain⟨rfl,hYU⟩:=hg
 have hle:m.Le ⟨λy=>if y=Y then some L else m.μ y,λy=>m.U y\/y=Y,m.w,m.F⟩:=by
  refine⟨λy h=>.inl h,λy L' hy hL=>?_,λb hb=>⟨hb,rfl⟩⟩;simp only at hL;split at hL
  ·rename_i e;subst e;exact absurd hy hYU
  ·exact hL
 refine⟨?_,hle⟩;have hkN:Y<N:=G.keyN Y (by simp[Zs.keys])
 have hown:(br++ex).Nodup:=by
  have:=G.own;rw[List.nodup_append]at this;exact this.2.1
 refine Good.swap (zs:=[((Y,.gone),[])]) (zs':=[((Y,.row t sz l),br)]) (R:=R) G hle (Nat.le_refl _) (λy hy _=>?_) (λ_ _ _ _=>rfl) ?_ (by simpa[Zs.own]using hown) (λb hb=>?_) (λb hb=>⟨G.frz b hb,.inl hb⟩) (by simp[Zs.keys]) (λy hy=>?_) (λy hy=>?_) rfl rfl rfl (Nat.le_refl _)
 ·simp only[Zs.keys,List.map_cons,List.map_nil,List.mem_singleton]at hy
  simp only;rw[if_neg hy]
 ·intro z hz
  simp only[List.mem_singleton]at hz;subst hz;refine⟨.inr rfl,L,by simp,hL,?_⟩;rcases h with h|⟨h1,arr,bs',e1,e2,e3,e4,e5,e6,e7⟩
  ·exact .inl h
  ·exact .inr ⟨h1,arr,bs',e1,e2,e3,e4,e5,e6,VCs.mono hle l (λ_ _=>rfl) e7⟩
 ·have hb':b∈br++ex:=by simpa[Zs.own]using hb
  have:=G.blk b (List.mem_append_right _ hb');exact⟨this.1,this.2,.inr (.inl hb')⟩
 ·simp only[Zs.keys,List.map_cons,List.map_nil,List.mem_singleton]at hy
  subst hy;exact⟨hkN,.inl (by simp[Zs.keys])⟩
 ·rcases hy with hy|rfl
  ·exact⟨G.usedN y hy,.inl hy⟩
  ·exact⟨hkN,.inr (.inl (by simp[Zs.keys]))⟩
theorem TW.sound{a b:AV}{s:List AA}(h:TW a b s):∀{m:Mem} {br ex:List Nat} {G:Zs} {c:List Value},G.map (·.1)=Ap s->Good m0 m N (G++R) (br++ex)->VC m a c br->
  ∃m' Z',m'.w=m.w/\Z'.map (·.1)=s/\Good m0 m' N (Z'++R) ex/\m.Le m' /\VC m' b c []:=by
 intro m br ex G c hG g hv;cases h with
 |frz=>
  have:G=[]:=by simpa[Ap]using hG
  subst this;obtain⟨G2,hle⟩:=g.freeze _ rfl;exact⟨{m with F:=λb=>m.F b\/b∈br},[],rfl,rfl,G2,hle,VC.frz hle a (λb hb=>⟨.inr hb,rfl⟩) hv⟩
 | @lst t sz l Y n hn=>
  cases G with
  |nil=>simp[Ap]at hG
  |cons z G=>
   simp only[Ap,List.map_cons,List.map_nil,List.cons.injEq,List.map_eq_nil_iff]at hG;obtain⟨hz,rfl⟩:=hG;obtain⟨⟨y,o⟩,bsY⟩:=z;simp only[Prod.mk.injEq]at hz;obtain⟨rfl,rfl⟩:=hz;rcases hv with⟨rfl,rfl,rfl⟩|⟨gb,cap,arr,bs',rfl,rfl,e1,e2,e3,e4,e5,e6⟩
   ·obtain⟨G',hle⟩:=EF (br:=[]) (t:=t) (sz:=sz) (l:=[]) g ⟨0,0,sz,true⟩ rfl (.inl ⟨rfl,rfl,rfl⟩)
    refine⟨(⟨λx=>if x=y then some ⟨0,0,sz,true⟩else m.μ x,λx=>m.U x\/x=y,m.w,m.F⟩:Mem),[((y,.row t sz []),[])],rfl,rfl,G',hle,rfl,.inr rfl,none,0,by rw[hn];rfl,λL hL=>?_⟩;simp only[if_true,Option.some.injEq]at hL;subst hL;exact .inl ⟨rfl,by rw[hn];rfl,rfl,hn⟩
   ·obtain⟨G',hle⟩:=EF (br:=gb::bs') (t:=t) (sz:=sz) (l:=l) g ⟨gb,cap,sz,false⟩ rfl (.inr ⟨rfl,arr,bs',rfl,e1,e2,e3,e4,e5,e6⟩)
    refine⟨(⟨λx=>if x=y then some ⟨gb,cap,sz,false⟩else m.μ x,λx=>m.U x\/x=y,m.w,m.F⟩:Mem),[((y,.row t sz l),gb::bs')],rfl,rfl,G',hle,rfl,.inr rfl,_,cap,by rw[hn],λL hL=>?_⟩;simp only[if_true,Option.some.injEq]at hL;subst hL;exact .inr ⟨rfl,by simp only;omega,0,by simp,λ_=>by simp⟩
 | @bx t a Y n hn=>
  cases G with
  |nil=>simp[Ap]at hG
  |cons z G=>
   simp only[Ap,List.map_cons,List.map_nil,List.cons.injEq,List.map_eq_nil_iff]at hG;obtain⟨hz,rfl⟩:=hG;obtain⟨⟨y,o⟩,bsY⟩:=z;simp only[Prod.mk.injEq]at hz;obtain⟨rfl,rfl⟩:=hz;obtain⟨gb,arr,bs',rfl,rfl,e1,⟨cap,e2,e3,e4⟩,e5⟩:=hv;subst hn;obtain⟨G',hle⟩:=EF (br:=gb::bs') (t:=t) (sz:=a.width) (l:=[a]) g ⟨gb,cap,a.width,false⟩ rfl (.inr ⟨rfl,arr,bs',rfl,e1,e2,e3,e4,λe he=>by rw[List.mem_singleton.1 he],by simpa using VCs.one.2 e5⟩);refine⟨(⟨λx=>if x=y then some ⟨gb,cap,a.width,false⟩else m.μ x,λx=>m.U x\/x=y,m.w,m.F⟩:Mem),[((y,.row t a.width [a]),gb::bs')],rfl,rfl,G',hle,rfl,.inr rfl,_,rfl,λL hL=>?_⟩;simp only[if_true,Option.some.injEq]at hL;subst hL;simp
theorem TWs.sound{as bs:List AV}{s:List AA}(h:TWs as bs s):∀{R:Zs} {m:Mem} {br ex:List Nat} {G:Zs} {c:List Value},G.map (·.1)=Ap s->Good m0 m N (G++R) (br++ex)->VCs m as c br->
  ∃m' Z',m'.w=m.w/\Z'.map (·.1)=s/\Good m0 m' N (Z'++R) ex/\m.Le m' /\VCs m' bs c []:=by
 induction h with
 |nil=>
  intro R m br ex G c hG g hv;obtain⟨rfl,rfl⟩:=hv;have:G=[]:=by simpa[Ap]using hG
  subst this;exact⟨m,[],rfl,rfl,g,.refl _,rfl,rfl⟩
 | @cons a b as bs s r h k ih=>
  intro R m br ex G c hG g hv;obtain⟨c1,c2,b1,b2,rfl,rfl,h1,h2⟩:=hv;rw[Ap,List.map_append]at hG;obtain⟨G1,G2,rfl,hG1,hG2⟩:=Bs hG;obtain⟨m1,Z1,hw1,hZ1,g1,hle1,v1⟩:=h.sound (R:=G2++R) (ex:=b2++ex) hG1 (by simpa using g) h1
  have g1':Good m0 m1 N (G2++(Z1++R)) (b2++ex):=g1.perm (by
   rw[<-List.append_assoc,<-List.append_assoc];exact List.Perm.append_right _ List.perm_append_comm)
  obtain⟨m2,Z2,hw2,hZ2,g2,hle2,v2⟩:=ih (R:=Z1++R) hG2 g1' (VCs.mono hle1 as (λb _=>by rw[hw1]) h2)
  refine⟨m2,Z1++Z2,hw2.trans hw1,by simp[hZ1,hZ2],g2.perm (by
   rw[<-List.append_assoc];exact List.Perm.append_right _ List.perm_append_comm),hle1.trans hle2,c1,c2,[],[],rfl,rfl,VC.mono hle2 b (λ_ hb=>by cases hb) v1,v2⟩
theorem TV.sound{a b:AV}{s:List AA}(h:TV a b s):∀{R:Zs} {m:Mem} {br ex:List Nat} {G:Zs} {u:Value},G.map (·.1)=Ap s->Good m0 m N (G++R) (br++ex)->VV m a u br->
  ∃m' Z',m'.w=m.w/\Z'.map (·.1)=s/\Good m0 m' N (Z'++R) ex/\m.Le m' /\VV m' b u []:=by
 intro R m br ex G u hG g hv;cases h with
 |cell h ha hb=>
  obtain⟨m',Z',h1,h2,h3,h4,h5⟩:=h.sound hG g ((FO ha).1 hv);exact⟨m',Z',h1,h2,h3,h4,(FO hb).2 h5⟩
 |agg h=>
  obtain⟨cells,rfl,hv⟩:=hv;obtain⟨m',Z',h1,h2,h3,h4,h5⟩:=h.sound hG g hv;exact⟨m',Z',h1,h2,h3,h4,cells,rfl,h5⟩
theorem TVs.sound{as bs:List AV}{s:List AA}(h:TVs as bs s):∀{R:Zs} {m:Mem} {br ex:List Nat} {G:Zs} {us:List Value},G.map (·.1)=Ap s->Good m0 m N (G++R) (br++ex)->VTs m as us br->
  ∃m' Z',m'.w=m.w/\Z'.map (·.1)=s/\Good m0 m' N (Z'++R) ex/\m.Le m' /\VTs m' bs us []:=by
 induction h with
 |nil=>
  intro R m br ex G c hG g hv;obtain⟨rfl,rfl⟩:=hv;have:G=[]:=by simpa[Ap]using hG
  subst this;exact⟨m,[],rfl,rfl,g,.refl _,rfl,rfl⟩
 | @cons a b as bs s r h ha hb k ih=>
  intro R m br ex G c hG g hv;obtain⟨u,us,b1,b2,rfl,rfl,h1,h2⟩:=(Av ha).1 hv;rw[Ap,List.map_append]at hG;obtain⟨G1,G2,rfl,hG1,hG2⟩:=Bs hG;obtain⟨m1,Z1,hw1,hZ1,g1,hle1,v1⟩:=h.sound (R:=G2++R) (ex:=b2++ex) hG1 (by simpa using g) h1
  have g1':Good m0 m1 N (G2++(Z1++R)) (b2++ex):=g1.perm (by
   rw[<-List.append_assoc,<-List.append_assoc];exact List.Perm.append_right _ List.perm_append_comm)
  obtain⟨m2,Z2,hw2,hZ2,g2,hle2,v2⟩:=ih (R:=Z1++R) hG2 g1' (VTs.mono hle1 as (λb _=>by rw[hw1]) h2)
  refine⟨m2,Z1++Z2,hw2.trans hw1,by simp[hZ1,hZ2],g2.perm (by
   rw[<-List.append_assoc];exact List.Perm.append_right _ List.perm_append_comm),hle1.trans hle2,(Av hb).2 ⟨u,us,[],[],rfl,rfl,VV.mono hle2 (λ_ hb=>by cases hb) v1,v2⟩⟩
theorem TR.sound{a b:AV}{s:List AA}(h:TR a b s){R:Zs}{m:Mem}{br ex:List Nat}{G:Zs}{u:Value}(hG:G.map (·.1)=Ap s)(g:Good m0 m N (G++R) (br++ex))(hv:VV m a u br):
  ∃m' Z',m'.w=m.w/\Z'.map (·.1)=s/\Good m0 m' N (Z'++R) ex/\m.Le m' /\VV m' b u []:=by
 cases h with
 |frz=>
  have:G=[]:=by simpa[Ap]using hG
  subst this;obtain⟨G2,hle⟩:=g.freeze _ rfl;exact⟨{m with F:=λb=>m.F b\/b∈br},[],rfl,rfl,G2,hle,VV.frz hle (λb hb=>⟨.inr hb,rfl⟩) hv⟩
 |v h=>exact h.sound hG g hv
 |tup h=>
  obtain⟨us,rfl,hv⟩:=hv;obtain⟨m',Z',h1,h2,h3,h4,h5⟩:=h.sound hG g hv;exact⟨m',Z',h1,h2,h3,h4,us,rfl,h5⟩
end
theorem Jk{β:Type}(wz:List (Nat×β)):∀Z:List β,(∀q∈wz,Z[q.1]?=some q.2)->C6 Z wz=Z:=by
 induction wz with
 |nil=>intro Z _;rfl
 |cons q r ih=>
  intro Z h;have h1:=h q (by simp);obtain⟨h2,h3⟩:=List.getElem?_eq_some_iff.1 h1;have:Z.set q.1 q.2=Z:=by rw[<-h3];exact List.set_getElem_self h2
  rw[C6,this];exact ih Z λq hq=>h q (by simp[hq])
section
variable {P:Program}{ty:TypeId}{pos:String}{after:Array Edge}{g:Option (Nat×Bool)}{dst:Option Tmp}{xs:List (Operand×AV)}{f:FuncId}{ats:Array TypeId}{r v:AV}{Sin Sout news:List AA}{rS wS:List (Nat×AA)}
theorem DO{β:Type}{C:β->Prop}{rr vv:β->AV}{So nw:β->List AA}{gs:List AA}{wE:β->List (Nat×AA)}{nt:Nat}{m0:Mem}{T:List (Nat×AV)}{S:List AA}{a:Act}{args:List AV}{vals:Array Value}(h:Spec P f args Sin λr' S'=>∃b,C b/\r'=rr b/\S'=So b)(hT:∀b,TR (rr b) (vv b) (nw b))(hgs:∀b,Ap (nw b)=gs)(hr:rS.map (·.2)=Sin++gs)(hw:∀b,(wE b).map (·.2)=So b++nw b)(hp:∀b,(wE b).map (·.1)=rS.map (·.1))(hnd:(rS.map (·.1)).Nodup)
  (hS:∀q∈rS,S[q.1]?=some q.2) (hd:∀d,dst=some d->d<nt) {m:Mem} {N:Nat} {Z:Zs} (h2:Z.map (·.1)=S) (h3:Good m0 m N Z []) (h4:TRel m0 m nt T a) (hv:VTs m args vals.toList []):
  Calls P f vals m.w λe w'=>∃u,e= .returned u/\∃b,C b/\Rel nt m0 ⟨AL T dst (vv b),AM S (wE b)⟩ (a.put dst u) w':=by
 obtain⟨RS,hR⟩:=Jp S (rS.map (·.1)) hnd (λp hp=>by
  obtain⟨q,hq,rfl⟩:=List.mem_map.1 hp;exact(List.getElem?_eq_some_iff.1 (hS q hq)).1)
 have p1:=hR rS rfl;rw[Jk rS S hS,hr,List.append_assoc]at p1;obtain⟨Z1,hz1,hz2⟩:=Fz (λz:AA×List Nat=>z.1) p1 h2;refine(h.run _ m N Z1 vals hz2 (h3.perm hz1).self hv).mono ?_;rintro e w' ⟨u,r',S',m',N',Z',br,rfl,rfl,hm,G',hu,b,hb,rfl,rfl⟩;have p2:=hR (wE b) (hp b);rw[hw,List.append_assoc,<-HK]at p2;obtain⟨Zo,Zr,rfl,ho,hzr⟩:=Bs hm;obtain⟨Zg,Zf,rfl,hg,hf⟩:=Bs hzr;have G1:=h3.perm hz1 |>.after G'
 have G2:Good m0 m' N' (Zg++(Zo++Zf)) (br++[]):=by
  have:=G1.perm (Z':=Zg++(Zo++Zf)) (by
   rw[<-List.append_assoc,<-List.append_assoc];exact List.Perm.append_right _ List.perm_append_comm)
  simpa using this
 obtain⟨m2,Zn,hw2,hn,G3,hle,hv2⟩:=(hT b).sound (hg.trans (hgs b).symm) G2 hu
 have G4:=G3.perm (Z':=Zo++(Zn++Zf)) (by
  rw[<-List.append_assoc,<-List.append_assoc];exact List.Perm.append_right _ List.perm_append_comm)
 obtain⟨Z3,hz3,hz4⟩:=Fz (λz:AA×List Nat=>z.1) (S':=AM S (wE b)) p2.symm (Z:=Zo++(Zn++Zf)) (by simp[ho,hn,hf]);exact⟨u,rfl,b,hb,m2,N',Z3,hw2,hz4,G4.perm hz3,((h4.mono G'.le).mono hle).put hd hv2⟩
theorem GC{nt:Nat}{m0:Mem}{T:List (Nat×AV)}{S:List AA}{a:Act}{args:List AV}{vals:Array Value}(h:Spec P f args Sin λr' S'=>r'=r/\S'=Sout)(hT:TR r v news)(hr:rS.map (·.2)=Sin++Ap news)(hw:wS.map (·.2)=Sout++news)(hp:wS.map (·.1)=rS.map (·.1))(hnd:(rS.map (·.1)).Nodup)
  (hS:∀q∈rS,S[q.1]?=some q.2) (hd:∀d,dst=some d->d<nt) {m:Mem} {N:Nat} {Z:Zs} (h2:Z.map (·.1)=S) (h3:Good m0 m N Z []) (h4:TRel m0 m nt T a) (hv:VTs m args vals.toList []):
  Calls P f vals m.w λe w'=>∃u,e= .returned u/\Rel nt m0 ⟨AL T dst v,AM S wS⟩ (a.put dst u) w':=
 (DO (β:=Unit) (C:=λ_=>True) (rr:=λ_=>r) (vv:=λ_=>v) (So:=λ_=>Sout) (nw:=λ_=>news) (wE:=λ_=>wS) (h.mono λr' S' ⟨e1,e2⟩=>⟨(),trivial,e1,e2⟩) (λ_=>hT) (λ_=>rfl) hr (λ_=>hw) (λ_=>hp) hnd hS hd h2 h3 h4 hv).mono λe w' ⟨u,e1,_,_,k⟩=>⟨u,e1,k⟩
theorem G8{β:Type}{C:β->Prop}{sE:β->St}{ro:Option Nat}{nt:Nat}{m0:Mem}{o:Oper}{a:Act}{w:World}{K:Act->World->Prop}{Q:Exit->Act->World->Prop}(hnd:∀c,o.op≠ .defer c)(h:o.wp P a w (λa' w'=>∃b,C b/\Rel nt m0 (sE b) a' w') (λ_ _ _=>False))(hK:∀a' w',(∃b,C b/\Rel nt m0 (sE b) a' w')->K a' w'):o.wpIn (FW ro) 0 P a w K Q:=by
 refine⟨λ_ _=>trivial,?_⟩;rw[show o.semAt (FW ro).round a.eval=execOp a.eval o from Oper.semAt_eq _ _ _ hnd];unfold Oper.wp at h;cases hr:(execOp a.eval o).run P w with
 |ok n w'=>
  rw[hr]at h
  cases n<;>simp only[Oper.upon,Oper.uponIn]at h⊢<;>
   first
    |exact hK _ _ h
    |exact⟨λh=>(by simp[FW,Fence.wide]at h),CallsIn.mono (H3 h) (λe w'' he=>by cases e<;>first|exact hK _ _ he|exact he.elim|exact(by obtain⟨_,_,hh⟩:=he;exact hh.elim))⟩
    |exact⟨λh=>(by simp[FW,Fence.wide]at h),RowsIn.mono (I0 h) (λ_ _ he=>hK _ _ he)⟩
 |halt x w'=>rw[hr]at h;cases x<;>simp only[Oper.upon]at h
theorem EE(h:Spec P f (xs.map (·.2)) Sin λr' S'=>r'=r/\S'=Sout)(ht:AY xs=true)(hT:TR r v news)(hr:rS.map (·.2)=Sin++Ap news)(hw:wS.map (·.2)=Sout++news)(hp:wS.map (·.1)=rS.map (·.1))(hnd:(rS.map (·.1)).Nodup):
  OpT P ⟨dst,.call ⟨.value (.func f),(xs.map (·.1)).toArray,ats⟩,ty,pos,after,g⟩ xs rS v wS:=by
 intro nt m0 T S a w hx hS hd hrel;obtain⟨m,N,Z,rfl,h2,h3,h4⟩:=hrel;refine DS (λ_=>rfl) h.fn ?_;exact GC h hT hr hw hp hnd hS hd h2 h3 h4 (by have:=Cj (Bc ht) λq hq=>h4.ev (hx q hq);simpa[Function.comp_def]using this)
theorem FT{x:Operand}{cap:List AV}(h:Spec P f (xs.map (·.2)++cap) Sin λr' S'=>r'=r/\S'=Sout)(hs:BN cap=true)(ht:AY xs=true)(hT:TR r v news)(hr:rS.map (·.2)=Sin++Ap news)(hw:wS.map (·.2)=Sout++news)(hp:wS.map (·.1)=rS.map (·.1))(hnd:(rS.map (·.1)).Nodup):
  OpT P ⟨dst,.call ⟨.value x,(xs.map (·.1)).toArray,ats⟩,ty,pos,after,g⟩ ((x,.fn f cap)::xs) rS v wS:=by
 intro nt m0 T S a w hx hS hd hrel;obtain⟨m,N,Z,rfl,h2,h3,h4⟩:=hrel;obtain⟨vs,e1,h5⟩:=h4.ev (hx (x,.fn f cap) (by simp));injection e1 with e1
 refine G7 e1 h.fn ?_
 exact GC h hT hr hw hp hnd hS hd h2 h3 h4 (by
  have:=GO (Cj (Bc ht) λq hq=>h4.ev (hx q (by simp[hq]))) (GN hs h5);simpa[Function.comp_def]using this)
inductive Pos(S:List AA):List AA->List AA->List (Nat×AA)->List (Nat×AA)->Prop
 |nil:Pos S [] [] [] []
 |cons {a b:AA} {as bs:List AA} {rs ws:List (Nat×AA)} {p:Nat} (h:At S p a) (k:Pos S as bs rs ws):Pos S (a::as) (b::bs) ((p,a)::rs) ((p,b)::ws)
theorem Pos.all{S as bs:List AA}{rs ws:List (Nat×AA)}(h:Pos S as bs rs ws):rs.map (·.2)=as/\ws.map (·.2)=bs/\ws.map (·.1)=rs.map (·.1)/\Gets S rs:=by
 induction h with
 |nil=>exact⟨rfl,rfl,rfl,.nil⟩
 |cons h k ih=>exact⟨by simp[ih.1],by simp[ih.2.1],by simp[ih.2.2.1],.cons h ih.2.2.2⟩
theorem Iu{β:Type}{C:β->Prop}{rr vv:β->AV}{So nw:β->List AA}{gs:List AA}{wE:β->List (Nat×AA)}{nt:Nat}{ops:Array Oper}{Q:Exit->St->Prop}{rest:List Oper}{T:List (Nat×AV)}{S:List AA}(h:Spec P f (xs.map (·.2)) Sin λr' S'=>∃b,C b/\r'=rr b/\S'=So b)(hT:∀b,TR (rr b) (vv b) (nw b))(hgs:∀b,Ap (nw b)=gs)(hpos:∀b,Pos S (Sin++gs) (So b++nw b) rS (wE b))(hnd:(rS.map (·.1)).Nodup)(hr:rS.map (·.2)=Sin++gs)(hG:Gets S rS)(hx:Evs T xs)(ht:AY xs=true)(hd:AD dst nt=true)
  (k:∀b,C b->AOps ro P nt ops Q rest ⟨AL T dst (vv b),AM S (wE b)⟩):AOps ro P nt ops Q (⟨dst,.call ⟨.value (.func f),(xs.map (·.1)).toArray,ats⟩,ty,pos,after,none⟩::rest) ⟨T,S⟩:=by
 rintro m0 a w ⟨m,N,Z,rfl,h2,h3,h4⟩;refine wpListIn_plain rfl λK hK=>G8 (C:=C) (sE:=λb=>⟨AL T dst (vv b),AM S (wE b)⟩) (by simp) (DS (λ_=>rfl) h.fn (DO h hT hgs hr (λb=>(hpos b).all.2.1) (λb=>(hpos b).all.2.2.1) hnd hG.all (BH hd) h2 h3 h4 ?_)) λa' w' ⟨b,hb,hrel⟩=>hK _ _ (k b hb m0 _ _ hrel)
 have:=Cj (Bc ht) λq hq=>h4.ev (hx.all q hq)
 simpa[Function.comp_def]using this
theorem TR.fz{r v:AV}[h:Frz r v]:TR r v []:=h.h▸ .frz
theorem TR.ls{t:TypeId}{sz:Nat}{l:List AV}{Y:Nat}:TR (.lst true t sz l) (.sl Y 0 l.length) [(Y,.row t sz l)]:=.v (.cell (.lst rfl) rfl rfl)
end
mutual
inductive Ho(a b:AV):AV->AV->Prop
 |here:Ho a b a b
 |agg {as bs:List AV} (h:Hos a b as bs):Ho a b (.agg as) (.agg bs)
inductive Hos(a b:AV):List AV->List AV->Prop
 |head {x y:AV} {as:List AV} (h:Ho a b x y):Hos a b (x::as) (y::as)
 |tail {x:AV} {as bs:List AV} (h:Hos a b as bs):Hos a b (x::as) (x::bs)
end
mutual
theorem Ho.vc{a b:AV}{m:Mem}:{x y:AV}->Ho a b x y->{c:List Value}->{bs:List Nat}->VC m x c bs->
  ∃c0 B bs',bs.Perm (B++bs')/\VC m a c0 B/\∀m' B',m.Le m' ->m'.w=m.w->VC m' b c0 B' ->∃bs2,bs2.Perm (B'++bs')/\VC m' y c bs2
 |_,_,.here,c,bs,h=>⟨c,bs,[],by simp,h,λm' B' _ _ k=>⟨B',by simp,k⟩⟩
 |_,_,.agg h,c,bs,k=>Hos.vcs h k
theorem Hos.vcs{a b:AV}{m:Mem}:{x y:List AV}->Hos a b x y->{c:List Value}->{bs:List Nat}->VCs m x c bs->
  ∃c0 B bs',bs.Perm (B++bs')/\VC m a c0 B/\∀m' B',m.Le m' ->m'.w=m.w->VC m' b c0 B' ->∃bs2,bs2.Perm (B'++bs')/\VCs m' y c bs2
 |_,_,.head (as:=as) h,_,_,⟨c1,c2,b1,b2,e1,e2,h1,h2⟩=>by
  obtain⟨c0,B,bs',hp,hv,k⟩:=Ho.vc h h1;refine⟨c0,B,bs'++b2,by rw[e2,<-List.append_assoc];exact hp.append_right _,hv,λm' B' hle hw hb=>?_⟩;obtain⟨bs2,hp2,hv2⟩:=k m' B' hle hw hb;exact⟨bs2++b2,by rw[<-List.append_assoc];exact hp2.append_right _,c1,c2,bs2,b2,e1,rfl,hv2,VCs.mono hle as (λ_ _=>by rw[hw]) h2⟩
 |_,_,.tail (x:=x) h,_,_,⟨c1,c2,b1,b2,e1,e2,h1,h2⟩=>by
  obtain⟨c0,B,bs',hp,hv,k⟩:=Hos.vcs h h2;refine⟨c0,B,b1++bs',?_,hv,λm' B' hle hw hb=>?_⟩
  ·rw[e2]
   refine(hp.append_left _).trans ?_;rw[<-List.append_assoc,<-List.append_assoc];exact List.perm_append_comm.append_right _
  ·obtain⟨bs2,hp2,hv2⟩:=k m' B' hle hw hb
   refine⟨b1++bs2,?_,c1,c2,b1,bs2,e1,rfl,VC.mono hle x (λ_ _=>by rw[hw]) h1,hv2⟩;refine(hp2.append_left _).trans ?_;rw[<-List.append_assoc,<-List.append_assoc];exact List.perm_append_comm.append_right _
end
mutual
theorem Ho.width{a b:AV}(h0:b.width=a.width):{x y:AV}->Ho a b x y->y.width=x.width
 |_,_,.here=>h0
 |_,_,.agg h=>Hos.widths h0 h
theorem Hos.widths{a b:AV}(h0:b.width=a.width):{x y:List AV}->Hos a b x y->AV.widths y=AV.widths x
 |_,_,.head h=>by simp only[AV.widths];rw[Ho.width h0 h]
 |_,_,.tail h=>by simp only[AV.widths];rw[Hos.widths h0 h]
end
theorem Hos.len{a b:AV}{x y:List AV}(h:Hos a b x y):y.length=x.length:=by
 induction x generalizing y with
 |nil=>cases h
 |cons e x ih=>cases h with
  |head h=>rfl
  |tail h=>simp[ih h]
theorem Hos.wd{a b:AV}(h0:b.width=a.width){x y:List AV}{n:Nat}(h:Hos a b x y)(hw:∀e∈x,e.width=n):∀e∈y,e.width=n:=by
 induction x generalizing y with
 |nil=>cases h
 |cons e x ih=>cases h with
  |head h=>
   intro z hz;rcases List.mem_cons.1 hz with rfl|hz
   ·rw[h.width h0];exact hw e (by simp)
   ·exact hw z (by simp[hz])
  |tail h=>
   intro z hz;rcases List.mem_cons.1 hz with rfl|hz
   ·exact hw _ (by simp)
   ·exact ih h (λe he=>hw e (by simp[he])) z hz
theorem Hos.orel{a b:AV}{m:Mem}{Y:Nat}{t2:TypeId}{sz2:Nat}{l2 l2':List AV}{bs:List Nat}(hI:Hos a b l2 l2')(h0:b.width=a.width)(h:ORel m Y (.row t2 sz2 l2) bs):
  ∃c0 B bs',bs.Perm (B++bs')/\VC m a c0 B/\∀m' B',m.Le m' ->m'.w=m.w->(∀L,m.μ Y=some L->m'.μ Y=some L)->VC m' b c0 B' ->∃bs2,bs2.Perm (B'++bs')/\ORel m' Y (.row t2 sz2 l2') bs2:=by
 obtain⟨hU,L,h1,h2,h3⟩:=h;rcases h3 with⟨h4,rfl,h5⟩|⟨h4,arr,bs',h5,h6,h7,h8,h9,h10,h11⟩
 ·cases hI
 ·obtain⟨c0,B,bs1,hp,hv,k⟩:=hI.vcs h11
  refine⟨c0,B,L.blk::bs1,?_,hv,λm' B' hle hw hμ hb=>?_⟩
  ·rw[h5];exact(hp.cons _).trans List.perm_middle.symm
  ·obtain⟨bs2,hp2,hv2⟩:=k m' B' hle hw hb
   refine⟨L.blk::bs2,(hp2.cons _).trans List.perm_middle.symm,hle.U _ hU,L,hμ L h1,h2,.inr ⟨h4,arr,bs2,rfl,by rw[hw];exact h6,h7,by rw[hI.len];exact h8,h9,hI.wd h0 h10,?_⟩⟩;rw[hI.len];exact hv2
section
variable {m0 m:Mem}{N:Nat}{R:Zs}{ex:List Nat}
theorem L7{Y:Nat}{t:TypeId}{sz:Nat}{l:List AV}{c:List Value}{B:List Nat}(hY:¬m.U Y)(h:VC m (.lst true t sz l) c B):
  ∃m',(∀x,x≠Y->m'.μ x=m.μ x)/\(∀x,m'.U x↔(m.U x\/x=Y))/\m'.w=m.w/\m'.F=m.F/\m.Le m' /\VC m' (.sl Y 0 l.length) c []/\ORel m' Y (.row t sz l) B:=by
 have key:∀L:Loc,m.Le ⟨λx=>if x=Y then some L else m.μ x,λx=>m.U x\/x=Y,m.w,m.F⟩:=λL=>by
  refine⟨λy h=>.inl h,λy L' hy hL=>?_,λb hb=>⟨hb,rfl⟩⟩;simp only at hL;split at hL
  ·rename_i e;subst e;exact absurd hy hY
  ·exact hL
 rcases h with⟨rfl,rfl,rfl⟩|⟨gb,cap,arr,bs',rfl,rfl,e1,e2,e3,e4,e5,e6⟩
 ·refine⟨⟨λx=>if x=Y then some ⟨0,0,sz,true⟩else m.μ x,λx=>m.U x\/x=Y,m.w,m.F⟩,λx hx=>by simp[hx],λx=>.rfl,rfl,rfl,key _,⟨rfl,.inr rfl,none,0,rfl,λL hL=>?_⟩,.inr rfl,⟨0,0,sz,true⟩,by simp,rfl,.inl ⟨rfl,rfl,rfl⟩⟩
  simp only[if_true,Option.some.injEq]at hL;subst hL;exact .inl ⟨rfl,rfl,rfl,rfl⟩
 ·refine⟨⟨λx=>if x=Y then some ⟨gb,cap,sz,false⟩else m.μ x,λx=>m.U x\/x=Y,m.w,m.F⟩,λx hx=>by simp[hx],λx=>.rfl,rfl,rfl,key _,⟨rfl,.inr rfl,_,cap,rfl,λL hL=>?_⟩,.inr rfl,⟨gb,cap,sz,false⟩,by simp,rfl,.inr ⟨rfl,arr,bs',rfl,e1,e2,e3,e4,e5,VCs.mono (key _) l (λ_ _=>rfl) e6⟩⟩
  simp only[if_true,Option.some.injEq]at hL;subst hL;exact .inr ⟨rfl,by simp only;omega,0,by simp,λ_=>by simp⟩
theorem Mz{A B ex:List Nat}{R:Zs}{z:AA×List Nat}(G:Good m0 m N (z::R) ex)(hp:z.2.Perm A):(A++ex).Nodup/\∀b∈A++ex,b<m.w.heap.size/\¬m.F b/\(b∈z.2\/b∈ex):=by
 have h:=G.own;simp only[Ao]at h
 have h1:(z.2++ex).Nodup:=by
  have:(z.2++Zs.own R++ex).Perm ((z.2++ex)++Zs.own R):=by
   rw[List.append_assoc,List.append_assoc];exact List.Perm.append_left _ List.perm_append_comm
  exact(List.nodup_append.1 (this.nodup_iff.1 h)).1
 refine⟨(hp.append_right ex).nodup_iff.1 h1,λb hb=>?_⟩;have hb':=(hp.append_right ex).mem_iff.2 hb;have:=G.blk b (by simp only[Ao];rcases List.mem_append.1 hb' with h|h<;>simp[h]);exact⟨this.1,this.2,List.mem_append.1 hb'⟩
theorem My{A ex:List Nat}{R zs:Zs}(G:Good m0 m N (zs++R) ex)(hp:zs.own.Perm A):(A++ex).Nodup/\∀b∈A++ex,b<m.w.heap.size/\¬m.F b/\(b∈zs.own\/b∈ex):=by
 have h:=G.own;rw[BO]at h
 have h1:(zs.own++ex).Nodup:=by
  have:(zs.own++Zs.own R++ex).Perm ((zs.own++ex)++Zs.own R):=by
   rw[List.append_assoc,List.append_assoc];exact List.Perm.append_left _ List.perm_append_comm
  exact(List.nodup_append.1 (this.nodup_iff.1 h)).1
 refine⟨(hp.append_right ex).nodup_iff.1 h1,λb hb=>?_⟩;have hb':=(hp.append_right ex).mem_iff.2 hb;have:=G.blk b (by rw[BO];rcases List.mem_append.1 hb' with h|h<;>simp[h]);exact⟨this.1,this.2,List.mem_append.1 hb'⟩
theorem Good.thawIn{Y:Nat}{t t2:TypeId}{sz sz2:Nat}{l l2 l2':List AV}{bs:List Nat}(G:Good m0 m N (((Y,.row t2 sz2 l2),bs)::R) ex)(hI:Hos (.lst true t sz l) (.sl N 0 l.length) l2 l2'):
  ∃m' b1 b2,m'.w=m.w/\m.Le m' /\Good m0 m' (N+1) (((N,.row t sz l),b1)::((Y,.row t2 sz2 l2'),b2)::R) ex:=by
 have hY:ORel m Y (.row t2 sz2 l2) bs:=G.obj _ (List.mem_cons_self ..);have hYN:Y<N:=G.keyN Y (by simp[Zs.keys]);have hNU:¬m.U N:=λh=>Nat.lt_irrefl _ (G.usedN _ h)
 obtain⟨c0,B,bs',hp,hv,k⟩:=hI.orel rfl hY;obtain⟨m',hμ,hU,hw,hF,hle,hv',ho⟩:=L7 hNU hv;obtain⟨bs2,hp2,hoY⟩:=k m' [] hle hw (λL hL=>by rw[hμ Y (by omega)];exact hL) hv';have hp3:bs.Perm (B++bs2):=hp.trans (by simpa using hp2.symm.append_left B);obtain⟨hn,hb⟩:=Mz (B:=[]) G hp3;refine⟨m',B,bs2,hw,hle,Good.swap (zs:=[((Y,.row t2 sz2 l2),bs)]) (zs':=[((N,.row t sz l),B),((Y,.row t2 sz2 l2'),bs2)]) (R:=R) G hle (Nat.le_succ _) (λx hx hxN=>hμ x (by omega)) (λb _ _ _=>by rw[hw]) ?_ (by simpa[Zs.own]using hn) (λb h=>?_) (λb h=>?_) ?_ ?_ (λx hx=>?_) (by rw[hw]) (by rw[hw]) (by rw[hw]) (by rw[hw];exact Nat.le_refl _)⟩
 ·intro z hz
  simp only[List.mem_cons,List.not_mem_nil,or_false]at hz;rcases hz with rfl|rfl
  ·exact ho
  ·exact hoY
 ·obtain⟨h1,h2,h3⟩:=hb b (by simpa[Zs.own]using h)
  rw[hw,hF];refine⟨h1,h2,?_⟩;rcases h3 with h3|h3
  ·exact .inl (by simpa[Zs.own]using h3)
  ·exact .inr (.inl h3)
 ·rw[hF]at h
  rw[hw];exact⟨G.frz b h,.inl h⟩
 ·simp[Zs.keys];omega
 ·intro x hx
  simp only[Zs.keys,List.map_cons,List.map_nil,List.mem_cons,List.not_mem_nil,or_false]at hx;rcases hx with rfl|rfl
  ·exact⟨by omega,.inr (Nat.le_refl _)⟩
  ·exact⟨by omega,.inl (by simp[Zs.keys])⟩
 ·rcases(hU x).1 hx with hx|rfl
  ·exact⟨by have:=G.usedN x hx;omega,.inl hx⟩
  ·exact⟨by omega,.inr (.inr (Nat.le_refl _))⟩
theorem Good.closeIn{X Y n:Nat}{t t2:TypeId}{sz sz2:Nat}{l l2 l2':List AV}{bX bs:List Nat}(G:Good m0 m N (((X,.row t sz l),bX)::((Y,.row t2 sz2 l2),bs)::R) ex)(hn:n=l.length)(hI:Hos (.sl X 0 n) (.lst true t sz l) l2 l2'):
  ∃m' b2,m'.w=m.w/\m.Le m' /\Good m0 m' N (((X,.used),[])::((Y,.row t2 sz2 l2'),b2)::R) ex:=by
 have hX:ORel m X (.row t sz l) bX:=G.obj _ (List.mem_cons_self ..);have hY:ORel m Y (.row t2 sz2 l2) bs:=G.obj ((Y,.row t2 sz2 l2),bs) (by simp)
 have hXY:Y≠X:=by
  have:=G.keys;simp only[Zs.keys,List.map_cons,List.nodup_cons,List.mem_cons,not_or]at this;exact λe=>this.1.1 e.symm
 let m':Mem:=⟨λx=>if x=X then none else m.μ x,m.U,m.w,m.F⟩
 have hle:m.Le m':=by
  refine⟨λy h=>h,λy L' hy hL=>?_,λb hb=>⟨hb,rfl⟩⟩;simp only[m']at hL;split at hL
  ·cases hL
  ·exact hL
 obtain⟨c0,B,bs',hp,hv,k⟩:=hI.orel rfl hY;obtain⟨rfl,hUX,A,q,rfl,hs⟩:=hv
 have hv':VC m' (.lst true t sz l) [.slice A n q] bX:=by
  obtain⟨_,L,hL,hsz,hO⟩:=hX;subst hn;rcases hO with⟨h1,rfl,rfl⟩|⟨h1,arr,bs',rfl,h2,h3,h4,h5,h6,h7⟩
  ·rcases hs L hL with⟨_,h,_⟩|⟨h,_⟩
   ·rw[h];exact .inl ⟨rfl,rfl,rfl⟩
   ·rw[h1]at h;cases h
  ·rcases hs L hL with⟨h,_⟩|⟨_,h8,o,h9,h10⟩
   ·rw[h1]at h;cases h
   ·rw[h9]
    have:o=0:=by rw[h10 (.inr rfl),Nat.zero_mul]
    subst this;exact .inr ⟨L.blk,L.cap,arr,bs',rfl,rfl,h2,h3,h4,h5,h6,VCs.mono hle l (λ_ _=>rfl) h7⟩
 obtain⟨bs2,hp2,hoY⟩:=k m' bX hle rfl (λL hL=>by simp only[m'];rw[if_neg hXY];exact hL) hv';have hp3:(bX++bs).Perm bs2:=((hp.append_left bX).trans (by simpa using hp2.symm));obtain⟨hn1,hb1⟩:=My (zs:=[((X,.row t sz l),bX),((Y,.row t2 sz2 l2),bs)]) (R:=R) (A:=bs2) G (by simpa[Zs.own]using hp3);refine⟨m',bs2,rfl,hle,Good.swap (zs:=[((X,.row t sz l),bX),((Y,.row t2 sz2 l2),bs)]) (zs':=[((X,.used),[]),((Y,.row t2 sz2 l2'),bs2)]) (R:=R) G hle (Nat.le_refl _) (λx hx _=>?_) (λb _ _ _=>rfl) ?_ (by simpa[Zs.own]using hn1) (λb h=>?_) (λb h=>⟨G.frz b h,.inl h⟩) ?_ ?_ (λx hx=>⟨G.usedN x hx,.inl hx⟩) rfl rfl rfl (Nat.le_refl _)⟩
 ·simp only[Zs.keys,List.map_cons,List.map_nil,List.mem_cons,List.not_mem_nil,or_false,not_or]at hx
  simp only[m'];rw[if_neg hx.1]
 ·intro z hz
  simp only[List.mem_cons,List.not_mem_nil,or_false]at hz;rcases hz with rfl|rfl
  ·exact⟨rfl,hX.1⟩
  ·exact hoY
 ·obtain⟨h1,h2,h3⟩:=hb1 b (by simpa[Zs.own]using h)
  refine⟨h1,h2,?_⟩;rcases h3 with h3|h3
  ·exact .inl h3
  ·exact .inr (.inl h3)
 ·simp[Zs.keys];exact λe=>hXY e.symm
 ·intro x hx
  simp only[Zs.keys,List.map_cons,List.map_nil,List.mem_cons,List.not_mem_nil,or_false]at hx;rcases hx with rfl|rfl
  ·exact⟨G.keyN _ (by simp[Zs.keys]),.inl (by simp[Zs.keys])⟩
  ·exact⟨G.keyN _ (by simp[Zs.keys]),.inl (by simp[Zs.keys])⟩
end
section
variable {nt:Nat}{st:St}
theorem St.thawIn{q Y:Nat}{t t2:TypeId}{sz sz2:Nat}{l l2:List AV}{l2':Nat->List AV}(hq:At st.S q (Y,.row t2 sz2 l2))(hI:∀X,Hos (.lst true t sz l) (.sl X 0 l.length) l2 (l2' X)):CS nt st λst'=>∃X,st'=⟨st.T,(X,.row t sz l)::st.S.set q (Y,.row t2 sz2 (l2' X))⟩:=by
 rintro m0 a w ⟨m,N,Z,rfl,h2,h3,h4⟩;obtain⟨bs,hz⟩:=hq.z h2;obtain⟨R,hp1,hp2⟩:=BF hz;obtain⟨m',b1,b2,hw,hle,G'⟩:=(h3.perm hp1).thawIn (hI N);exact⟨⟨st.T,(N,.row t sz l)::st.S.set q (Y,.row t2 sz2 (l2' N))⟩,⟨m',N+1,((N,.row t sz l),b1)::Z.set q ((Y,.row t2 sz2 (l2' N)),b2),hw,by rw[List.map_cons,List.map_set,h2],G'.perm ((hp2 _).symm.cons _),h4.mono hle⟩,N,rfl⟩
theorem St.closeIn{p q X Y n:Nat}{t t2:TypeId}{sz sz2:Nat}{l l2 l2':List AV}(hpq:p≠q)(hS:At st.S p (X,.row t sz l))(hq:At st.S q (Y,.row t2 sz2 l2))(hn:n=l.length)(hI:Hos (.sl X 0 n) (.lst true t sz l) l2 l2'):CS nt st λst'=>st'=⟨st.T,(st.S.set p (X,.used)).set q (Y,.row t2 sz2 l2')⟩:=by
 rintro m0 a w ⟨m,N,Z,rfl,h2,h3,h4⟩;obtain⟨bs,hz⟩:=hS.z h2;obtain⟨bs2,hz2⟩:=hq.z h2;obtain⟨R,hp1,hp2⟩:=C1 hpq hz hz2;obtain⟨m',b2,hw,hle,G'⟩:=(h3.perm hp1).closeIn hn hI;exact⟨⟨st.T,(st.S.set p (X,.used)).set q (Y,.row t2 sz2 l2')⟩,⟨m',N,(Z.set p ((X,.used),[])).set q ((Y,.row t2 sz2 l2'),b2),hw,by rw[List.map_set,List.map_set,h2],G'.perm (hp2 _ _).symm,h4.mono hle⟩,rfl⟩
end
end
section
variable {ro:Option Nat}
theorem Pos.f{S as bs:List AA}{rs ws:List (Nat×AA)}(h:Pos S as bs rs ws:=by(repeat (first|exact .nil|(apply Pos.cons;exact At.f)))):Pos S as bs rs ws:=h
section
variable {P:Program}{nt:Nat}{ops:Array Oper}{Q:Exit->St->Prop}{l rest:List Oper}{acc:List Eff}{T:List (Nat×AV)}{S:List AA}{rS wS:List (Nat×AA)}{v:AV}{ty:TypeId}{pos:String}{after:Array Edge}{dst:Option Tmp}{ats:Array TypeId}{f:FuncId}{r:AV}{Sin Sout news:List AA}{c:Option (List Bool)}{code:Code}
def BI:List Nat->Bool
 |[]=>true
 |a::l=>!(l.any (Nat.beq a))&&BI l
theorem BP:∀{l:List Nat},BI l=true->l.Nodup
 |[],_=>.nil
 |a::l,h=>by
  simp only[BI,Bool.and_eq_true,Bool.not_eq_true',List.any_eq_false]at h;exact List.nodup_cons.2 ⟨λhm=>h.1 a hm (by simp),BP h.2⟩
theorem AWP.thawIn{q Y:Nat}{t t2:TypeId}{sz sz2:Nat}{ll l2:List AV}{l2':Nat->List AV}(hq:At S q (Y,.row t2 sz2 l2))(hI:∀X,Hos (.lst true t sz ll) (.sl X 0 ll.length) l2 (l2' X))(k:∀X,AWP ro P nt code Q ⟨T,(X,.row t sz ll)::S.set q (Y,.row t2 sz2 (l2' X))⟩):AWP ro P nt code Q ⟨T,S⟩:=
 .ghost (St.thawIn (st:=⟨T,S⟩) hq hI) λst' ⟨X,e⟩=>by subst e;exact k X
theorem AWP.closeIn{p q X Y n:Nat}{t t2:TypeId}{sz sz2:Nat}{ll l2 l2':List AV}(hS:At S p (X,.row t sz ll))(hq:At S q (Y,.row t2 sz2 l2))(hpq:Nat.beq p q=false)(hn:n=ll.length)(hI:Hos (.sl X 0 n) (.lst true t sz ll) l2 l2')(k:AWP ro P nt code Q ⟨T,(S.set p (X,.used)).set q (Y,.row t2 sz2 l2')⟩):AWP ro P nt code Q ⟨T,S⟩:=
 .ghost (St.closeIn (st:=⟨T,S⟩) (λe=>by subst e;simp at hpq) hS hq hn hI) λst' e=>by subst e;exact k
theorem AOps.closeIn{p q X Y n:Nat}{t t2:TypeId}{sz sz2:Nat}{ll l2 l2':List AV}(hS:At S p (X,.row t sz ll))(hq:At S q (Y,.row t2 sz2 l2))(hpq:Nat.beq p q=false)(hn:n=ll.length)(hI:Hos (.sl X 0 n) (.lst true t sz ll) l2 l2')(k:AOps ro P nt ops Q rest ⟨T,(S.set p (X,.used)).set q (Y,.row t2 sz2 l2')⟩):AOps ro P nt ops Q rest ⟨T,S⟩:=
 .ghost (St.closeIn (st:=⟨T,S⟩) (λe=>by subst e;simp at hpq) hS hq hn hI) λst' e=>by subst e;exact k
theorem FN{x0:Operand}{v0:AV}{g:Option (Nat×Bool)}(h0:Rd c T x0 v0)(h:Spec P f ([v0]) Sin λr' S'=>r'=r/\S'=Sout)(hT:TR r v news)(hpos:Pos S (Sin++Ap news) (Sout++news) rS wS)(hnd:BI (rS.map (·.1))=true)(ht:AY [(x0,v0)]=true):Stp c P ⟨dst,.call ⟨.value (.func f),#[x0],ats⟩,ty,pos,after,g⟩ T S [(x0,v0)] rS v wS:=⟨EE (xs:=[(x0,v0)]) h ht hT hpos.all.1 hpos.all.2.1 hpos.all.2.2.1 (BP hnd),(.cons h0 .nil),hpos.all.2.2.2⟩
theorem AOps.z1{x0:Operand}{v0:AV}(h:Spec P f ([v0]) Sin λr' S'=>r'=r/\S'=Sout)(hT:TR r v news)(k:AOps ro P nt ops Q rest ⟨AL T dst v,AM S wS⟩)(h0:Rd none T x0 v0:=by rfl)(hpos:Pos S (Sin++Ap news) (Sout++news) rS wS:=by exact Pos.f)(hnd:BI (rS.map (·.1))=true:=by rfl)(ht:AY [(x0,v0)]=true:=by rfl)(hd:AD dst nt=true:=by rfl):AOps ro P nt ops Q (⟨dst,.call ⟨.value (.func f),#[x0],ats⟩,ty,pos,after,none⟩::rest) ⟨T,S⟩:=AOps.s (FN h0 h hT hpos hnd ht) hd k
theorem RGo.z1{x0:Operand}{v0:AV}{g:Option (Nat×Bool)}{ts:List Nat}(h:Spec P f ([v0]) Sin λr' S'=>r'=r/\S'=Sout)(hT:TR r v news)(k:RGo P nt ops l Q rest (acc++[⟨⟨dst,.call ⟨.value (.func f),#[x0],ats⟩,ty,pos,after,g⟩,ts++AW [(x0,v0)],rS.map (·.1),v,wS⟩]) ⟨AL T dst v,AM S wS⟩)(h0:Rd none T x0 v0:=by rfl)(hpos:Pos S (Sin++Ap news) (Sout++news) rS wS:=by exact Pos.f)(hnd:BI (rS.map (·.1))=true:=by rfl)(ht:AY [(x0,v0)]=true:=by rfl)(hd:AD dst nt=true:=by rfl)(hg:Grd ops T g ts:=by first|exact .none|exact .met rfl rfl (by first|rfl|assumption)):RGo P nt ops l Q (⟨dst,.call ⟨.value (.func f),#[x0],ats⟩,ty,pos,after,g⟩::rest) acc ⟨T,S⟩:=Cf (FN h0 h hT hpos hnd ht) hd hg k
theorem ED{x0:Operand}{v0:AV}{g:Option (Nat×Bool)}{ts:List Nat}{t:TypeId}{sz q Y:Nat}{ll:List AV}(h:PS P f ([v0]) (.lst true t sz ll))(k:RGo P nt ops l Q rest (acc++[⟨⟨dst,.call ⟨.value (.func f),#[x0],ats⟩,ty,pos,after,g⟩,ts++AW [(x0,v0)],[q],.sl Y 0 ll.length,[(q,(Y,.row t sz ll))]⟩]) ⟨AL T dst (.sl Y 0 ll.length),AM S [(q,(Y,.row t sz ll))]⟩)(hSq:At S q (Y,.gone):=by exact At.f)(h0:Rd none T x0 v0:=by rfl)(ht:AY [(x0,v0)]=true:=by rfl)(hd:AD dst nt=true:=by rfl)(hg:Grd ops T g ts:=by first|exact .none|exact .met rfl rfl (by first|rfl|assumption)):RGo P nt ops l Q (⟨dst,.call ⟨.value (.func f),#[x0],ats⟩,ty,pos,after,g⟩::rest) acc ⟨T,S⟩:=Cf (FN h0 h (.ls (Y:=Y)) (.cons hSq .nil) rfl ht) hd hg k
theorem KQ{x:Operand}{cap:List AV}{x0:Operand}{v0:AV}{g:Option (Nat×Bool)}(hx:Rd c T x (.fn f cap))(h0:Rd c T x0 v0)(h:Spec P f (v0::cap) Sin λr' S'=>r'=r/\S'=Sout)(hT:TR r v news)(hpos:Pos S (Sin++Ap news) (Sout++news) rS wS)(hnd:BI (rS.map (·.1))=true)(hs:BN cap=true)(ht:AY [(x0,v0)]=true):Stp c P ⟨dst,.call ⟨.value x,#[x0],ats⟩,ty,pos,after,g⟩ T S [(x,.fn f cap),(x0,v0)] rS v wS:=⟨FT (xs:=[(x0,v0)]) h hs ht hT hpos.all.1 hpos.all.2.1 hpos.all.2.2.1 (BP hnd),(.cons hx (.cons h0 .nil)),hpos.all.2.2.2⟩
theorem ID{x:Operand}{cap:List AV}{x0:Operand}{v0:AV}(h:Spec P f (v0::cap) Sin λr' S'=>r'=r/\S'=Sout)(hT:TR r v news)(k:AOps ro P nt ops Q rest ⟨AL T dst v,AM S wS⟩)(hx:Rd none T x (.fn f cap):=by rfl)(h0:Rd none T x0 v0:=by rfl)(hpos:Pos S (Sin++Ap news) (Sout++news) rS wS:=by exact Pos.f)(hnd:BI (rS.map (·.1))=true:=by rfl)(hs:BN cap=true:=by rfl)(ht:AY [(x0,v0)]=true:=by rfl)(hd:AD dst nt=true:=by rfl):AOps ro P nt ops Q (⟨dst,.call ⟨.value x,#[x0],ats⟩,ty,pos,after,none⟩::rest) ⟨T,S⟩:=AOps.s (KQ hx h0 h hT hpos hnd hs ht) hd k
theorem H6{x0:Operand}{v0:AV}{x1:Operand}{v1:AV}{g:Option (Nat×Bool)}(h0:Rd c T x0 v0)(h1:Rd c T x1 v1)(h:Spec P f ([v0,v1]) Sin λr' S'=>r'=r/\S'=Sout)(hT:TR r v news)(hpos:Pos S (Sin++Ap news) (Sout++news) rS wS)(hnd:BI (rS.map (·.1))=true)(ht:AY [(x0,v0),(x1,v1)]=true):Stp c P ⟨dst,.call ⟨.value (.func f),#[x0,x1],ats⟩,ty,pos,after,g⟩ T S [(x0,v0),(x1,v1)] rS v wS:=⟨EE (xs:=[(x0,v0),(x1,v1)]) h ht hT hpos.all.1 hpos.all.2.1 hpos.all.2.2.1 (BP hnd),(.cons h0 (.cons h1 .nil)),hpos.all.2.2.2⟩
theorem AOps.z2{x0:Operand}{v0:AV}{x1:Operand}{v1:AV}(h:Spec P f ([v0,v1]) Sin λr' S'=>r'=r/\S'=Sout)(hT:TR r v news)(k:AOps ro P nt ops Q rest ⟨AL T dst v,AM S wS⟩)(h0:Rd none T x0 v0:=by rfl)(h1:Rd none T x1 v1:=by rfl)(hpos:Pos S (Sin++Ap news) (Sout++news) rS wS:=by exact Pos.f)(hnd:BI (rS.map (·.1))=true:=by rfl)(ht:AY [(x0,v0),(x1,v1)]=true:=by rfl)(hd:AD dst nt=true:=by rfl):AOps ro P nt ops Q (⟨dst,.call ⟨.value (.func f),#[x0,x1],ats⟩,ty,pos,after,none⟩::rest) ⟨T,S⟩:=AOps.s (H6 h0 h1 h hT hpos hnd ht) hd k
theorem RGo.z2{x0:Operand}{v0:AV}{x1:Operand}{v1:AV}{g:Option (Nat×Bool)}{ts:List Nat}(h:Spec P f ([v0,v1]) Sin λr' S'=>r'=r/\S'=Sout)(hT:TR r v news)(k:RGo P nt ops l Q rest (acc++[⟨⟨dst,.call ⟨.value (.func f),#[x0,x1],ats⟩,ty,pos,after,g⟩,ts++AW [(x0,v0),(x1,v1)],rS.map (·.1),v,wS⟩]) ⟨AL T dst v,AM S wS⟩)(h0:Rd none T x0 v0:=by rfl)(h1:Rd none T x1 v1:=by rfl)(hpos:Pos S (Sin++Ap news) (Sout++news) rS wS:=by exact Pos.f)(hnd:BI (rS.map (·.1))=true:=by rfl)(ht:AY [(x0,v0),(x1,v1)]=true:=by rfl)(hd:AD dst nt=true:=by rfl)(hg:Grd ops T g ts:=by first|exact .none|exact .met rfl rfl (by first|rfl|assumption)):RGo P nt ops l Q (⟨dst,.call ⟨.value (.func f),#[x0,x1],ats⟩,ty,pos,after,g⟩::rest) acc ⟨T,S⟩:=Cf (H6 h0 h1 h hT hpos hnd ht) hd hg k
theorem GF{x:Operand}{cap:List AV}{x0:Operand}{v0:AV}{x1:Operand}{v1:AV}{g:Option (Nat×Bool)}(hx:Rd c T x (.fn f cap))(h0:Rd c T x0 v0)(h1:Rd c T x1 v1)(h:Spec P f (v0::v1::cap) Sin λr' S'=>r'=r/\S'=Sout)(hT:TR r v news)(hpos:Pos S (Sin++Ap news) (Sout++news) rS wS)(hnd:BI (rS.map (·.1))=true)(hs:BN cap=true)(ht:AY [(x0,v0),(x1,v1)]=true):Stp c P ⟨dst,.call ⟨.value x,#[x0,x1],ats⟩,ty,pos,after,g⟩ T S [(x,.fn f cap),(x0,v0),(x1,v1)] rS v wS:=⟨FT (xs:=[(x0,v0),(x1,v1)]) h hs ht hT hpos.all.1 hpos.all.2.1 hpos.all.2.2.1 (BP hnd),(.cons hx (.cons h0 (.cons h1 .nil))),hpos.all.2.2.2⟩
theorem AOps.zc2{x:Operand}{cap:List AV}{x0:Operand}{v0:AV}{x1:Operand}{v1:AV}(h:Spec P f (v0::v1::cap) Sin λr' S'=>r'=r/\S'=Sout)(hT:TR r v news)(k:AOps ro P nt ops Q rest ⟨AL T dst v,AM S wS⟩)(hx:Rd none T x (.fn f cap):=by rfl)(h0:Rd none T x0 v0:=by rfl)(h1:Rd none T x1 v1:=by rfl)(hpos:Pos S (Sin++Ap news) (Sout++news) rS wS:=by exact Pos.f)(hnd:BI (rS.map (·.1))=true:=by rfl)(hs:BN cap=true:=by rfl)(ht:AY [(x0,v0),(x1,v1)]=true:=by rfl)(hd:AD dst nt=true:=by rfl):AOps ro P nt ops Q (⟨dst,.call ⟨.value x,#[x0,x1],ats⟩,ty,pos,after,none⟩::rest) ⟨T,S⟩:=AOps.s (GF hx h0 h1 h hT hpos hnd hs ht) hd k
theorem RGo.zc2{x:Operand}{cap:List AV}{x0:Operand}{v0:AV}{x1:Operand}{v1:AV}{g:Option (Nat×Bool)}{ts:List Nat}(h:Spec P f (v0::v1::cap) Sin λr' S'=>r'=r/\S'=Sout)(hT:TR r v news)(k:RGo P nt ops l Q rest (acc++[⟨⟨dst,.call ⟨.value x,#[x0,x1],ats⟩,ty,pos,after,g⟩,ts++AW [(x,.fn f cap),(x0,v0),(x1,v1)],rS.map (·.1),v,wS⟩]) ⟨AL T dst v,AM S wS⟩)(hx:Rd none T x (.fn f cap):=by rfl)(h0:Rd none T x0 v0:=by rfl)(h1:Rd none T x1 v1:=by rfl)(hpos:Pos S (Sin++Ap news) (Sout++news) rS wS:=by exact Pos.f)(hnd:BI (rS.map (·.1))=true:=by rfl)(hs:BN cap=true:=by rfl)(ht:AY [(x0,v0),(x1,v1)]=true:=by rfl)(hd:AD dst nt=true:=by rfl)(hg:Grd ops T g ts:=by first|exact .none|exact .met rfl rfl (by first|rfl|assumption)):RGo P nt ops l Q (⟨dst,.call ⟨.value x,#[x0,x1],ats⟩,ty,pos,after,g⟩::rest) acc ⟨T,S⟩:=Cf (GF hx h0 h1 h hT hpos hnd hs ht) hd hg k
theorem H5{x0:Operand}{v0:AV}{x1:Operand}{v1:AV}{x2:Operand}{v2:AV}{g:Option (Nat×Bool)}(h0:Rd c T x0 v0)(h1:Rd c T x1 v1)(h2:Rd c T x2 v2)(h:Spec P f ([v0,v1,v2]) Sin λr' S'=>r'=r/\S'=Sout)(hT:TR r v news)(hpos:Pos S (Sin++Ap news) (Sout++news) rS wS)(hnd:BI (rS.map (·.1))=true)(ht:AY [(x0,v0),(x1,v1),(x2,v2)]=true):Stp c P ⟨dst,.call ⟨.value (.func f),#[x0,x1,x2],ats⟩,ty,pos,after,g⟩ T S [(x0,v0),(x1,v1),(x2,v2)] rS v wS:=⟨EE (xs:=[(x0,v0),(x1,v1),(x2,v2)]) h ht hT hpos.all.1 hpos.all.2.1 hpos.all.2.2.1 (BP hnd),(.cons h0 (.cons h1 (.cons h2 .nil))),hpos.all.2.2.2⟩
theorem AOps.z3{x0:Operand}{v0:AV}{x1:Operand}{v1:AV}{x2:Operand}{v2:AV}(h:Spec P f ([v0,v1,v2]) Sin λr' S'=>r'=r/\S'=Sout)(hT:TR r v news)(k:AOps ro P nt ops Q rest ⟨AL T dst v,AM S wS⟩)(h0:Rd none T x0 v0:=by rfl)(h1:Rd none T x1 v1:=by rfl)(h2:Rd none T x2 v2:=by rfl)(hpos:Pos S (Sin++Ap news) (Sout++news) rS wS:=by exact Pos.f)(hnd:BI (rS.map (·.1))=true:=by rfl)(ht:AY [(x0,v0),(x1,v1),(x2,v2)]=true:=by rfl)(hd:AD dst nt=true:=by rfl):AOps ro P nt ops Q (⟨dst,.call ⟨.value (.func f),#[x0,x1,x2],ats⟩,ty,pos,after,none⟩::rest) ⟨T,S⟩:=AOps.s (H5 h0 h1 h2 h hT hpos hnd ht) hd k
theorem RGo.z3{x0:Operand}{v0:AV}{x1:Operand}{v1:AV}{x2:Operand}{v2:AV}{g:Option (Nat×Bool)}{ts:List Nat}(h:Spec P f ([v0,v1,v2]) Sin λr' S'=>r'=r/\S'=Sout)(hT:TR r v news)(k:RGo P nt ops l Q rest (acc++[⟨⟨dst,.call ⟨.value (.func f),#[x0,x1,x2],ats⟩,ty,pos,after,g⟩,ts++AW [(x0,v0),(x1,v1),(x2,v2)],rS.map (·.1),v,wS⟩]) ⟨AL T dst v,AM S wS⟩)(h0:Rd none T x0 v0:=by rfl)(h1:Rd none T x1 v1:=by rfl)(h2:Rd none T x2 v2:=by rfl)(hpos:Pos S (Sin++Ap news) (Sout++news) rS wS:=by exact Pos.f)(hnd:BI (rS.map (·.1))=true:=by rfl)(ht:AY [(x0,v0),(x1,v1),(x2,v2)]=true:=by rfl)(hd:AD dst nt=true:=by rfl)(hg:Grd ops T g ts:=by first|exact .none|exact .met rfl rfl (by first|rfl|assumption)):RGo P nt ops l Q (⟨dst,.call ⟨.value (.func f),#[x0,x1,x2],ats⟩,ty,pos,after,g⟩::rest) acc ⟨T,S⟩:=Cf (H5 h0 h1 h2 h hT hpos hnd ht) hd hg k
end
end
section
variable {ro:Option Nat}
section
variable {P:Program}{nt:Nat}{c:Code}{ops:Array Oper}{rest:List Oper}{Q:Exit->St->Prop}{T:List (Nat×AV)}{S:List AA}{p n X sz:Nat}{t:TypeId}{l:List AV}
theorem IC(d:Nat)(l':List AV)(he:AV.frzs l=l')(k:AWP ro P nt c Q ⟨(d,.lst false t sz l')::T,S.set p (X,.used)⟩)(hd:AQ T d=some (.sl X 0 n):=by rfl)(hS:At S p (X,.row t sz l):=by exact At.f)(hn:n=l.length:=by first|rfl|assumption|omega|(simp;omega)|simp[*]):AWP ro P nt c Q ⟨T,S⟩:=
 AWP.ice hd hS hn (he▸k)
end
end
section
variable {ro:Option Nat}
open Go.RowKit
section
variable {P:Program}{m0 m:Mem}{N:Nat}{R:Zs}{ex:List Nat}{X sz:Nat}{l:List AV}{t t' te ty:TypeId}{x y:Operand}{pos:String}{after:Array Edge}{g:Option (Nat×Bool)}{dst:Option Tmp}{p:Nat}
theorem OpT.slice_lo{k:IntKind}{off n lo:Nat}{qi:Int}(he:BM P t=some te)(hsz:tSz P te=some sz)(hq:qi=(lo:Int))(hh:lo<=n):OpT P ⟨dst,.slice t x (some y) none none,ty,pos,after,g⟩ [(x,.sl X off n),(y,.prim (.int k qi))] [(p,(X,.row t' sz l))] (.sl X (off+lo) (n-lo)) []:=
 .pure_ λm a hx hS=>by
  obtain⟨bs,hU,L,h1,h2,_⟩:=hS (p,(X,.row t' sz l)) (by simp);obtain⟨_,hU',A,c,e1,h3⟩:=hx (x,.sl X off n) (by simp);have hy:=(hx (y,.prim (.int k qi)) (by simp)).prim;injection e1 with e1
  simp only at e1 hy;subst hq
  have hcap:n<=c:=by
   rcases h3 L h1 with⟨_,e,_,e'⟩|⟨_,h4,o,e,_⟩
   ·omega
   ·injection e with _ _ e;omega
  have hr:=Bz (P:=P) (w:=m.w) he hsz (A:=A) (len:=n) (cap:=c) (lo:=lo) (hi:=n) (vl:=some (.int k lo)) (vh:=none) (λu hu=>⟨k,by injection hu with hu;exact hu.symm⟩) (by simp) (by simp) (by simp) hh hcap;refine⟨_,by simp only[execOp,Option.map_none,Option.map_some,e1,hy,Sem.run_bind,hr,Result.andThen_ok];rfl,rfl,hU',_,_,rfl,λL' hL'=>?_⟩;rw[h1]at hL';injection hL' with hL';subst hL'
  rcases h3 L h1 with⟨h5,e,e2,e3⟩|⟨h5,h4,o,e,h6⟩
  ·injection e with e4 e5 e6
   subst e4 e6;have:lo=0:=by omega
   subst this;exact .inl ⟨h5,by simp[e3],by omega,by omega⟩
  ·injection e with e4 e5 e6
   subst e4 e6;simp only[Option.map_some];by_cases hc:lo<L.cap-off
   ·refine .inr ⟨h5,by omega,o+lo*sz,?_,λ_=>?_⟩
    ·rw[if_neg (by omega),CI]
     congr 1
     omega
    ·rw[h6 (.inl (by omega)),h2,Nat.add_mul]
   ·have hlo:lo=L.cap-off:=by omega
    refine .inr ⟨h5,by omega,o,by rw[if_pos hlo.symm];congr 1;omega,λh=>?_⟩;rcases h with h|h
    ·omega
    ·have h0:off=0:=by omega
     rw[h6 (.inr h0),h0,show lo=0 by omega]
theorem Ef(m:Mem):m.Le {m with w:=m.w.drew}:=⟨λ_ h=>h,λ_ _ _ h=>h,λ_ h=>⟨h,rfl⟩⟩
theorem Good.drew{Z:Zs}(G:Good m0 m N Z ex):Good m0 {m with w:=m.w.drew} N Z ex:=
 ⟨λz hz=>ORel.mono (Ef m) (λhg hu=>by have:=G.obj z hz;rw[hg]at this;exact this.2 hu) (λL h=>h) (λ_ _=>rfl) (G.obj z hz),G.own,G.blk,G.frz,G.keys,G.keyN,G.usedN,G.le.trans (Ef m),G.os,G.tape,G.output,G.size⟩
theorem Fb{tx:TypeId}{kk:IntKind}{i:TypeInfo}{z:Value}(w:World)(ht:P.underlying t=some (.slice te))(hk:P.underlying tx=some (.int kk))(hi:P.info? te=some i)(hz:i.zero=some z)(hzs:z.cells.size=i.size)(base:Option Addr)(sLen sCap:Nat)(olds:List Value)
  (hold:(Builtin.firstCells i.size sLen (.slice base sLen sCap)).run P w.drew= .ok olds.toArray w.drew) (k2:IntKind) (n:Nat) (hn63:(n:Int)<=9223372036854775807) (hb:n*i.bytes<=281474976710656) (hn:n*i.size≠0)
  (hg:sCap<sLen+n) (h63:((sLen+n:Nat):Int)<=9223372036854775807) (hfit:Builtin.nextslicecap (sLen+n) sCap*i.bytes<=281474976710656):
  (Builtin.append_ #[t,tx] ty #[.slice base sLen sCap,.int k2 (n:Int)]).run P w=
   .ok (.slice (some ⟨w.heap.size,0,none⟩) (sLen+n) (grownCap w (sLen+n) sCap te))
    (w.drew.alloc (.cells ((olds.toArray++Builtin.zeroCells z.cells n)++Builtin.zeroCells z.cells (grownCap w (sLen+n) sCap te-(sLen+n))) te)):=by
 have hng:¬(sLen+n<=sCap):=by omega
 have h63':¬(9223372036854775807<((sLen:Int)+(n:Int))):=by omega
 have h48':¬(281474976710656<Builtin.nextslicecap (sLen+n) sCap*i.bytes):=by omega
 have hw:IntKind.i64.wrap (n:Int)=n:=Ba (by omega) hn63;have h0:¬((n:Int)<0):=by omega
 have hbi:¬(281474976710656<(n:Int)*(i.bytes:Int)):=by
  have:((n*i.bytes:Nat):Int)<=281474976710656:=by omega
  rw[Int.natCast_mul]at this;omega
 have hn':¬(n=0\/i.size=0):=by simpa[Nat.mul_eq_zero]using hn
 simp[Builtin.append_,run_underlying ht,run_underlying hk,sizeOf,typeInfo,zeroValue,hi,hz,asInt,asIntOf,hw,h0,hbi,hng,h63',h48',Question.forced,hold,newRow,grownCap,hn'];exact λh=>absurd h hn
def Lv(P:Program)(t:TypeId):Bool:=match P.underlying t with
 |some (.int _)=>true
 |_=>false
theorem Jf{t:TypeId}(h:Lv P t=true):∃k,P.underlying t=some (.int k):=by
 unfold Lv at h;split at h
 ·rename_i k hk;exact⟨k,hk⟩
 ·cases h
end
section
variable {P:Program}{nt:Nat}{c:Code}{ops:Array Oper}{rest:List Oper}{Q:Exit->St->Prop}{T:List (Nat×AV)}{S:List AA}{p n X sz off by_:Nat}{t te tx ty:TypeId}{l:List AV}{x y:Operand}{dst:Option Tmp}{pos:String}{after:Array Edge}{k:IntKind}{q:Int}{t':TypeId}
theorem W.slice_lo{c:Option (List Bool)}{g:Option (Nat×Bool)}{lo:Nat}{qi:Int}[TEl P t te][TSize P te sz](hx:Rd c T x (.sl X off n))(hy:Rd c T y (.prim (.int k qi)))(hSp:At S p (X,.row t' sz l))(hq:qi=(lo:Int))(hh:lo<=n):Stp c P ⟨dst,.slice t x (some y) none none,ty,pos,after,g⟩ T S [(x,.sl X off n),(y,.prim (.int k qi))] [(p,(X,.row t' sz l))] (.sl X (off+lo) (n-lo)) []:=⟨.slice_lo TEl.h TSize.h hq hh,.cons hx (.cons hy .nil),.cons hSp .nil⟩
end
end
section
variable {ro:Option Nat}
section
variable {P:Program}{nt:Nat}{c d:Code}{Q:Exit->St->Prop}{T:List (Nat×AV)}{S:List AA}{p q n X Y sz sz2:Nat}{t t2:TypeId}{l l2 l2':List AV}{st:St}
end
theorem jn{β:Type}{R:β->Prop}{inv:β->St}{st:St}(b:β)(hR:R b)(h0:st.Le (inv b):=by exact⟨by exact Lk.f,by exact Sub.f⟩):Exit.normal=Exit.normal/\∃b,R b/\st.Le (inv b):=⟨rfl,b,hR,h0⟩
theorem GK{P:Program}{nt:Nat}{c d:Code}{Q Q2:Exit->St->Prop}{st:St}{β:Type}(R:β->Prop)(inv:β->St)(h1:AWP ro P nt c (λe st'=>e= .normal/\∃b,R b/\st'.Le (inv b)) st)(h2:∀b,R b->AWP ro P nt d Q (inv b)):AWP ro P nt c (andThen (AWP ro P nt d Q) Q2) st:=
 h1.mono λe st' ⟨he,b,hb,hle⟩=>by subst he;exact AWP.weak hle (h2 b hb)
end
section
variable {ro:Option Nat}
theorem DQ{a b x y:AV}:{L:List AV}->{k:Nat}->L[k]?=some x->Ho a b x y->Hos a b L (L.set k y)
 |[],k,h,_=>by simp at h
 |z::L,0,h,hh=>by
  have:z=x:=by simpa using h
  subst this;exact .head hh
 |z::L,k+1,h,hh=>.tail (DQ (L:=L) (by simpa using h) hh)
inductive NilO(t:TypeId)(sz:Nat):AV->AV->Prop
 |nil:NilO t sz (.prim (.slice none 0 0)) (.lst true t sz [])
theorem St.nilO{nt:Nat}{st:St}{q Y:Nat}{t2:TypeId}{sz2:Nat}{l2 l2':List AV}(t:TypeId)(sz:Nat)(hq:At st.S q (Y,.row t2 sz2 l2))(hI:Ics (NilO t sz) l2 l2'):CS nt st λst'=>st'=⟨st.T,st.S.set q (Y,.row t2 sz2 l2')⟩:=by
 rintro m0 a w ⟨m,N,Z,rfl,h2,h3,h4⟩;obtain⟨bs,hz⟩:=hq.z h2;obtain⟨R,hp1,hp2⟩:=BF hz;have G:=h3.perm hp1;have hO:ORel m Y (.row t2 sz2 l2) bs:=G.obj _ (List.mem_cons_self ..)
 have hO':=hI.orel (Mem.Le.refl m) (λL h=>h) (λa b h=>by cases h;rfl) (λa b h c bs k=>by
  cases h;obtain⟨⟨rfl,_⟩,rfl⟩:=k;exact .inl ⟨rfl,rfl,rfl⟩) rfl hO
 exact⟨⟨st.T,st.S.set q (Y,.row t2 sz2 l2')⟩,⟨m,N,Z.set q ((Y,.row t2 sz2 l2'),bs),rfl,by rw[List.map_set,h2],(DR (A:=[]) G hO').perm (hp2 _).symm,h4⟩,rfl⟩
section
variable {P:Program}{nt:Nat}{c:Code}{ops:Array Oper}{rest:List Oper}{Q:Exit->St->Prop}{T:List (Nat×AV)}{S:List AA}{p q n X Y sz sz2:Nat}{t t2:TypeId}{l l2 l2':List AV}{st:St}
theorem AWP.nilO(t:TypeId)(sz:Nat)(hI:Ics (NilO t sz) l2 l2')(k:AWP ro P nt c Q ⟨T,S.set q (Y,.row t2 sz2 l2')⟩)(hq:At S q (Y,.row t2 sz2 l2):=by exact At.f):AWP ro P nt c Q ⟨T,S⟩:=
 .ghost (St.nilO (st:=⟨T,S⟩) t sz hq hI) λst' e=>by subst e;exact k
end
section
variable {P:Program}{dst:Option Tmp}{ty t ty2:TypeId}{pos:String}{after:Array Edge}{g:Option (Nat×Bool)}{T:List (Nat×AV)}{S:List AA}{c:Option (List Bool)}{x y:Operand}{i j:Int}
theorem Bu(k:Int)(h:i-j=k)(hr: -9223372036854775808<=k/\k<=9223372036854775807)(hx:Rd c T x (.prim (.int .i64 i)))(hy:Rd c T y (.prim (.int .i64 j))):Stp c P ⟨dst,.binOp .sub t x y ty2,ty,pos,after,g⟩ T S [(x,.prim (.int .i64 i)),(y,.prim (.int .i64 j))] [] (.prim (.int .i64 k)) []:=h▸W.sub hx hy (h▸hr)
theorem Bj(k:Int)(h:i+j=k)(hr: -9223372036854775808<=k/\k<=9223372036854775807)(hx:Rd c T x (.prim (.int .i64 i)))(hy:Rd c T y (.prim (.int .i64 j))):Stp c P ⟨dst,.binOp .add t x y ty2,ty,pos,after,g⟩ T S [(x,.prim (.int .i64 i)),(y,.prim (.int .i64 j))] [] (.prim (.int .i64 k)) []:=h▸W.add hx hy (h▸hr)
end
section
variable {P:Program}{dst:Option Tmp}{ty t ty2:TypeId}{pos:String}{after:Array Edge}{g:Option (Nat×Bool)}{T:List (Nat×AV)}{S:List AA}{c:Option (List Bool)}{x y:Operand}{a b:Bool}
end
end
section
section
variable {P:Program}{nt:Nat}{ops:Array Oper}{Q:Exit->St->Prop}{rest:List Oper}{T:List (Nat×AV)}{S:List AA}{op:Op}{ty:TypeId}{pos:String}{after:Array Edge}{dst:Option Tmp}{l:List Oper}{acc:List Eff}
abbrev noA:AV:=.opt false (.prim (.bool false))
theorem CU{g:Nat}{b b':Bool}{t:Nat}(k:RGo P nt ops l Q rest (acc++[⟨⟨dst,op,ty,pos,after,some (g,b)⟩,[t],[],noA,[]⟩]) ⟨AL T dst noA,S⟩)(ht:(ops[g]?).bind (·.dst)=some t:=by rfl)(hv:AQ T t=some (.prim (.bool b')):=by rfl)(hb:b'= !b:=by first|rfl|assumption|(simp only[Bool.not_true,Bool.not_false];assumption))(hd:AD dst nt=true:=by rfl):RGo P nt ops l Q (⟨dst,op,ty,pos,after,some (g,b)⟩::rest) acc ⟨T,S⟩:=by
 have e:(b'==b)=false:=by rw[hb];cases b<;>rfl
 refine BW (λr=>?_) k;have:=Run.stepQ (P:=P) (nt:=nt) (ops:=ops) (o:=⟨dst,op,ty,pos,after,some (g,b)⟩) (st:=⟨T,S⟩) (xs:=[]) (rS:=[]) (v:=.prim (.bool false)) (cs:=[]) rfl ht hv rfl (λh=>absurd (h (b'==b) (by simp)) (by rw[e];simp)) .nil .nil hd rfl (by rw[e];exact r);rw[e]at this;exact this
theorem CT{g:Nat}{b b':Bool}{t:Nat}(k:RGo P nt ops l Q rest (acc++[⟨⟨dst,op,ty,pos,after,some (g,b)⟩,[t],[],.opt false (.opt (b'==b) (.prim (.bool false))),[]⟩]) ⟨AL T dst (.opt false (.opt (b'==b) (.prim (.bool false)))),S⟩)(ht:(ops[g]?).bind (·.dst)=some t:=by rfl)(hv:AQ T t=some (.opt false (.prim (.bool b'))):=by rfl)(hd:AD dst nt=true:=by rfl):RGo P nt ops l Q (⟨dst,op,ty,pos,after,some (g,b)⟩::rest) acc ⟨T,S⟩:=by
 refine BW (λr=>?_) k;exact Run.stepQ (P:=P) (nt:=nt) (ops:=ops) (o:=⟨dst,op,ty,pos,after,some (g,b)⟩) (st:=⟨T,S⟩) (xs:=[]) (rS:=[]) (v:=.prim (.bool false)) (cs:=[false]) rfl ht hv rfl (λh=>absurd (h false (by simp)) (by simp)) .nil .nil hd rfl r
end
end
section
section
variable {P:Program}{dst:Option Tmp}{ty t ty2:TypeId}{pos:String}{after:Array Edge}{g:Option (Nat×Bool)}{T:List (Nat×AV)}{S:List AA}{c:Option (List Bool)}{x y:Operand}
theorem OpT.shr{k k':IntKind}{i j:Int}{n:Nat}(hj:j=(n:Int))(hn:n<=k.bits):OpT P ⟨dst,.binOp .shr t x y ty2,ty,pos,after,g⟩ [(x,.prim (.int k i)),(y,.prim (.int k' j))] [] (.prim (.int k (i.fdiv (2^n)))) []:=
 Am rfl (λw=>by
  subst hj;have h:¬((n:Int)<0):=by omega
  simp[binOp,Op.shift,h,Sem.run_pure,Nat.min_eq_left hn]) (.inl ⟨by simp,by simp⟩)
theorem OpT.conv{k k' k0:IntKind}{i:Int}{t2:TypeId}(h1:P.underlying t=some (.int k0))(h2:P.underlying t2=some (.int k'))(hw:k'.wrap i=i):OpT P ⟨dst,.convert t t2 x,ty,pos,after,g⟩ [(x,.prim (.int k i))] [] (.prim (.int k' i)) []:=
 .pure_ λm a hx _=>by
  have e1:=(hx (x,.prim (.int k i)) (by simp)).prim;refine⟨.int k' i,?_,Au _ rfl⟩;simp only at e1;simp[execOp,e1,convert,run_underlying h1,run_underlying h2,Conv.intToInt,hw,Sem.run_bind,Sem.run_pure,Result.andThen_ok]
end
end
section
open Go.RowKit
def FreeE(e:AV):Prop:=∀m c bs,VC m e c bs->bs=[]
def FreeL(l:List AV):Prop:=∀e∈l,FreeE e
theorem FreeL.vcs{l:List AV}(h:FreeL l){m:Mem}{c:List Value}{bs:List Nat}(k:VCs m l c bs):bs=[]:=by
 induction l generalizing c bs with
 |nil=>exact k.2
 |cons e l ih=>
  simp only[VCs]at k;obtain⟨c1,c2,b1,b2,_,rfl,h1,h2⟩:=k;rw[h e (by simp) _ _ _ h1,ih (λx hx=>h x (by simp[hx])) h2];rfl
theorem FreeL.sub{l l':List AV}(h:FreeL l)(hs:∀e∈l',e∈l):FreeL l':=λe he=>h e (hs e he)
theorem FreeE.agg{us:List AV}(h:FreeL us):FreeE (.agg us):=λm c bs k=>h.vcs (show VCs m us c bs from k)
theorem FreeE.prim(u:Value):FreeE (.prim u):=λm c bs k=>by
 simp only[VC]at k;exact k.2
section
variable {m0 m:Mem}{N:Nat}{X sz:Nat}{t:TypeId}{l:List AV}{R:Zs}{ex:List Nat}
theorem Good.over{bs:List Nat}(G:Good m0 m N (((X,.row t sz l),bs)::R) ex){L:Loc}{arr:Array Value}{bs0:List Nat}(hL:m.μ X=some L)(hnil:L.isNil=false)(hbs:bs=L.blk::bs0)(hb:m.w.heap[L.blk]?=some (.cells arr t (0,0)))(harr:arr.size=L.cap*sz)(hl:l.length<=L.cap)(hcap:L.cap<=maxLen)(hsz:L.sz=sz)(hw:∀e∈l,e.width=sz)
  (hv:VCs m l (arr.toList.take (l.length*sz)) bs0) (hfr:FreeL l) {off:Nat} {ns:List AV} {cs:List Value} (hoff:off<=l.length) (hend:off+ns.length<=L.cap) (hnw:∀e∈ns,e.width=sz) (hn:VCs m ns cs []):
  Good m0 {m with w:=m.w.setRow L.blk (arr.toList.take (off*sz)++cs++arr.toList.drop (off*sz+cs.length)).toArray} N (((X,.row t sz (l.take off++ns++l.drop (off+ns.length))),[L.blk])::R) ex/\m.Le {m with w:=m.w.setRow L.blk (arr.toList.take (off*sz)++cs++arr.toList.drop (off*sz+cs.length)).toArray}:=by
 have hcs:cs.length=ns.length*sz:=by rw[VCs.len _ hn,Aw hnw]
 obtain rfl:=hfr.vcs hv;obtain⟨p1,p2,e1,h1,h2⟩:=VCs.take hw hv (k:=off) hoff;obtain rfl:=(hfr.sub λe he=>List.mem_of_mem_take he).vcs h1;obtain rfl:p2=[]:=by simpa using e1.symm
 have h4:VCs m (l.drop (off+ns.length)) (((arr.toList.take (l.length*sz)).drop (off*sz)).drop (ns.length*sz)) []:=by
  by_cases hk:off+ns.length<=l.length
  ·obtain⟨p3,p4,e2,h3,h4⟩:=VCs.take (l:=l.drop off) (λe he=>hw e (List.mem_of_mem_drop he)) h2 (k:=ns.length) (by rw[List.length_drop];omega)
   rw[List.drop_drop]at h4;have:=(hfr.sub λe he=>List.mem_of_mem_drop he).vcs h4;rw[this]at h4;exact h4
  ·have hz:l.length*sz<=off*sz+ns.length*sz:=by rw[<-Nat.add_mul];exact Nat.mul_le_mul_right _ (by omega)
   rw[List.drop_of_length_le (by omega),List.drop_drop,List.drop_of_length_le (by rw[List.length_take];omega)];exact⟨rfl,rfl⟩
 have hsz0:l.length*sz<=arr.toList.length:=by rw[show arr.toList.length=arr.size from Array.length_toList,harr];exact Nat.mul_le_mul_right _ hl
 have hle1:off*sz+ns.length*sz<=arr.toList.length:=by rw[<-Nat.add_mul,show arr.toList.length=arr.size from Array.length_toList,harr];exact Nat.mul_le_mul_right _ hend
 have hol:off*sz<=l.length*sz:=Nat.mul_le_mul_right _ hoff;have hlen:(l.take off++ns++l.drop (off+ns.length)).length=max l.length (off+ns.length):=by simp only[List.length_append,List.length_take,List.length_drop];omega
 refine FX G hL hnil hbs hb (l':=l.take off++ns++l.drop (off+ns.length)) (bs1:=[]) ?_ (by rw[hlen];omega) hcap hsz ?_ ?_ (by simp) (by simp) _ rfl
 ·simp only[List.size_toArray,List.length_append,List.length_take,List.length_drop,Array.length_toList,harr]at hsz0 hle1⊢
  omega
 ·intro e he
  rcases List.mem_append.1 he with he|he
  ·rcases List.mem_append.1 he with he|he
   ·exact hw e (List.mem_of_mem_take he)
   ·exact hnw e he
  ·exact hw e (List.mem_of_mem_drop he)
 ·rw[hlen]
  have e3:(arr.toList.take (off*sz)++cs++arr.toList.drop (off*sz+cs.length)).take (max l.length (off+ns.length)*sz)=(arr.toList.take (l.length*sz)).take (off*sz)++cs++((arr.toList.take (l.length*sz)).drop (off*sz)).drop (ns.length*sz):=by
   have hm2:off*sz+ns.length*sz<=max l.length (off+ns.length)*sz:=by rw[<-Nat.add_mul];exact Nat.mul_le_mul_right _ (by omega)
   rw[List.take_append,List.take_of_length_le (by simp only[List.length_append,List.length_take];omega)]
   congr 1
   ·rw[List.take_take,Nat.min_eq_left hol]
   ·rw[List.drop_drop,hcs,List.drop_take]
    simp only[List.length_append,List.length_take];rw[Nat.min_eq_left (by omega),hcs];by_cases hk:off+ns.length<=l.length
    ·rw[Nat.max_eq_left hk]
    ·have hz:l.length*sz<=off*sz+ns.length*sz:=by rw[<-Nat.add_mul];exact Nat.mul_le_mul_right _ (by omega)
     rw[Nat.max_eq_right (by omega),Nat.add_mul,Nat.sub_self,Nat.sub_eq_zero_of_le (by omega)]
  rw[show(arr.toList.take (off*sz)++cs++arr.toList.drop (off*sz+cs.length)).toArray.toList=arr.toList.take (off*sz)++cs++arr.toList.drop (off*sz+cs.length)from rfl,e3];exact(h1.append hn).append h4
theorem HG{Y:Nat}{l2:List AV}{t2:TypeId}{bs2:List Nat}{vy:Value}{i b k:Nat}(hO:ORel m Y (.row t2 sz l2) bs2)(hy:VV m (.sl Y i b) vy [])(hb:0<b)(hfr:FreeL l2)(hi:i+k<=l2.length):∃A2 q2 cs,vy= .slice (some A2) b q2/\VCs m ((l2.drop i).take k) cs []/\cs.length=k*sz/\∀j v,cs[j]?=some v->m.w.cell? (A2.add j)=some v:=by
 obtain⟨hU,L,hL,hLs,hO⟩:=hO;obtain⟨_,hU',A,q,e1,hs⟩:=hy;injection e1 with e1
 subst e1;rcases hs L hL with⟨h5,e2,e3,e4⟩|⟨h5,h6,o,h7,h8⟩
 ·omega
 ·rcases hO with⟨h9,_⟩|⟨hnil,arr,bs',rfl,hb2,harr,hlc,hcap,hw,hv⟩
  ·rw[h5]at h9;cases h9
  ·have ho:=h8 (.inl (by omega))
   injection h7 with h7 h9 h10
   subst h7;obtain⟨p1,p2,e5,h11,h12⟩:=VCs.take hw hv (k:=i) (by omega);obtain⟨p3,p4,e6,h13,h14⟩:=VCs.take (l:=l2.drop i) (λe he=>hw e (List.mem_of_mem_drop he)) h12 (k:=k) (by rw[List.length_drop];omega);have h15:=(hfr.sub λe he=>List.mem_of_mem_drop (List.mem_of_mem_take he)).vcs h13;rw[h15]at h13;have hsz0:l2.length*sz<=arr.toList.length:=by rw[show arr.toList.length=arr.size from Array.length_toList,harr];exact Nat.mul_le_mul_right _ hlc
   have hle:i*sz+k*sz<=l2.length*sz:=by rw[<-Nat.add_mul];exact Nat.mul_le_mul_right _ hi
   refine⟨_,q,_,rfl,h13,?_,λj v hj=>?_⟩
   ·simp only[List.length_take,List.length_drop];omega
   ·rw[CI,ho,hLs]
    rw[List.getElem?_take]at hj;split at hj
    ·rw[List.getElem?_drop,List.getElem?_take]at hj
     split at hj
     ·simp only[World.cell?,hb2]
      rw[<-Array.getElem?_toList];exact hj
     ·cases hj
    ·cases hj
theorem GA{P:Program}{tt te ty:TypeId}{Z:Zs}{p:Nat}{bs:List Nat}{vx:Value}{j a b q2:Nat}(G:Good m0 m N Z [])(hz:Z[p]?=some ((X,.row t sz l),bs))(hx:VV m (.sl X j a) vx [])(ha:0<a)(hj:j<=l.length)(hfr:FreeL l)(he:BM P tt=some te)(hs:tSz P te=some sz)
  {ns:List AV} {cs:List Value} (hns:∀e∈ns,e.width=sz) (hcs:VCs m ns cs []) (hk:ns.length=min b a) {A2:Addr} (hsrc:∀j v,cs[j]?=some v->m.w.cell? (A2.add j)=some v):
  ∃m' b',(Builtin.copy_ #[tt,tt] ty #[vx,.slice (some A2) b q2]).run P m.w= .ok (goInt ns.length) m'.w/\Good m0 m' N (Z.set p ((X,.row t sz (l.take j++ns++l.drop (j+ns.length))),b')) []/\m.Le m':=by
 obtain⟨R,hp1,hp2⟩:=BF hz;have G1:=G.perm hp1;have hO:=G1.obj _ (List.mem_cons_self ..);obtain⟨hU,L,hL,hLs,hO⟩:=hO;obtain⟨_,hU',A,q,e1,hsl⟩:=hx;injection e1 with e1
 subst e1;rcases hsl L hL with⟨h5,e2,e3,e4⟩|⟨h5,h6,o,h7,h8⟩
 ·omega
 ·rcases hO with⟨h9,_⟩|⟨hnil,arr,bs',rfl,hb2,harr,hlc,hcap,hw,hv⟩
  ·rw[h5]at h9;cases h9
  ·have ho:=h8 (.inl (by omega))
   injection h7 with h7 h9 h10
   subst h7;have hcl:cs.length=ns.length*sz:=by rw[VCs.len _ hcs,Aw hns]
   have hle:j+ns.length<=L.cap:=by omega
   have hfit:j*sz+cs.length<=arr.size:=by rw[hcl,harr,<-Nat.add_mul];exact Nat.mul_le_mul_right _ hle
   obtain⟨G2,hle2⟩:=Good.over G1 hL h5 rfl hb2 harr hlc hcap hLs hw hv hfr hj hle hns hcs;refine⟨_,[L.blk],?_,G2.perm (hp2 _).symm,hle2⟩;have hl:=run_loadCells_list (P:=P) m.w A2 cs hsrc;have hst:=run_storeCells_at P L.blk (j*sz) t cs 0 arr m.w hb2 (by simpa using hfit) (VCs.ones _ hcs);have hu:=Ar he;unfold tSz at hs;rw[ho,hLs];have hkk:Nat.min b a=ns.length:=hk.symm;cases hq:P.info? te with
   |none=>rw[hq]at hs;cases hs
   |some i=>
    rw[hq]at hs;injection hs with hs
    rw[hcl]at hl;simp[Builtin.copy_,run_underlying hu,Builtin.lenOf,Builtin.firstCells,sizeOf,typeInfo,hq,hs,hkk,hl,hst]
end
section
variable {P:Program}{dst:Option Tmp}{ty t te t2:TypeId}{pos:String}{after:Array Edge}{g:Option (Nat×Bool)}{x y:Operand}{p q r sz X Y Z:Nat}{l l2:List AV}
theorem Kn{α:Type}{S:List α}{p:Nat}{z:α}(h:S[p]?=some z):S.set p z=S:=by
 obtain⟨h5,h6⟩:=List.getElem?_eq_some_iff.1 h;have h7:=List.set_getElem_self h5;rw[h6]at h7;exact h7
theorem OpT.copyO{j a i b:Nat}(k:Nat)(he:BM P t=some te)(hsz:tSz P te=some sz)(ha:0<a)(hb:0<b)(hk:k=min b a)(hj:j<=l.length)(hi:i+k<=l2.length)(hfr:FreeL l)(hfr2:FreeL l2)(hw2:∀e∈l2,e.width=sz)(hpq:p≠q):
  OpT P ⟨dst,.call ⟨.builtin .copy,#[x,y],#[t,t]⟩,ty,pos,after,g⟩ [(x,.sl X j a),(y,.sl Y i b)] [(p,(X,.row te sz l)),(q,(Y,.row te sz l2))] (.prim (.int .i64 k)) [(p,(X,.row te sz (l.take j++(l2.drop i).take k++l.drop (j+k))))]:=by
 intro nt m0 T S ac w hx hS hd hr;obtain⟨m,N,W,rfl,h2,h3,h4⟩:=hr;have h2':W.map (·.1)=S:=h2;have hxa:VV m (.sl X j a) (ac.eval x) []:=h4.ev (hx (x,.sl X j a) (by simp));have hya:VV m (.sl Y i b) (ac.eval y) []:=h4.ev (hx (y,.sl Y i b) (by simp));have hSp:=hS (p,(X,.row te sz l)) (by simp);have hSq:=hS (q,(Y,.row te sz l2)) (by simp);rw[<-h2',List.getElem?_map]at hSp hSq;cases hz:W[p]? with
 |none=>rw[hz]at hSp;cases hSp
 |some z=>
 cases hzq:W[q]? with
 |none=>rw[hzq]at hSq;cases hSq
 |some zq=>
  rw[hz]at hSp;rw[hzq]at hSq;simp only[Option.map_some,Option.some.injEq]at hSp hSq;obtain⟨z1,bs⟩:=z;obtain⟨zq1,bsq⟩:=zq;simp only at hSp hSq;subst hSp hSq;obtain⟨A2,q2,cs,e1,hcs,hcl,hsrc⟩:=HG (h3.obj _ (List.mem_of_getElem? hzq)) hya hb hfr2 hi;have hkl:((l2.drop i).take k).length=k:=by rw[List.length_take,List.length_drop];omega
  obtain⟨m',b',hrun,G',hle⟩:=GA (ty:=ty) (q2:=q2) h3 hz hxa ha hj hfr he hsz (ns:=(l2.drop i).take k) (λe he=>hw2 e (List.mem_of_mem_drop (List.mem_of_mem_take he))) hcs (b:=b) (by rw[hkl];exact hk) hsrc;rw[hkl]at hrun G';unfold Oper.wp;rw[An];simp only[builtin,List.map_toArray,List.map_cons,List.map_nil,e1,Sem.run_bind,hrun,Result.andThen_ok,Sem.run_pure];refine⟨m',N,_,rfl,?_,G',(h4.mono hle).put hd (Au _)⟩;rw[List.map_set,h2'];rfl
theorem OpT.copyS{j a i b:Nat}(k:Nat)(he:BM P t=some te)(hsz:tSz P te=some sz)(ha:0<a)(hb:0<b)(hk:k=min b a)(hj:j<=l.length)(hi:i+k<=l.length)(hfr:FreeL l)(hw2:∀e∈l,e.width=sz):
  OpT P ⟨dst,.call ⟨.builtin .copy,#[x,y],#[t,t]⟩,ty,pos,after,g⟩ [(x,.sl X j a),(y,.sl X i b)] [(p,(X,.row te sz l))] (.prim (.int .i64 k)) [(p,(X,.row te sz (l.take j++(l.drop i).take k++l.drop (j+k))))]:=by
 intro nt m0 T S ac w hx hS hd hr;obtain⟨m,N,W,rfl,h2,h3,h4⟩:=hr;have h2':W.map (·.1)=S:=h2;have hxa:VV m (.sl X j a) (ac.eval x) []:=h4.ev (hx (x,.sl X j a) (by simp));have hya:VV m (.sl X i b) (ac.eval y) []:=h4.ev (hx (y,.sl X i b) (by simp));have hSp:=hS (p,(X,.row te sz l)) (by simp);rw[<-h2',List.getElem?_map]at hSp;cases hz:W[p]? with
 |none=>rw[hz]at hSp;cases hSp
 |some z=>
  rw[hz]at hSp;simp only[Option.map_some,Option.some.injEq]at hSp;obtain⟨z1,bs⟩:=z;simp only at hSp;subst hSp;obtain⟨A2,q2,cs,e1,hcs,hcl,hsrc⟩:=HG (h3.obj _ (List.mem_of_getElem? hz)) hya hb hfr hi;have hkl:((l.drop i).take k).length=k:=by rw[List.length_take,List.length_drop];omega
  obtain⟨m',b',hrun,G',hle⟩:=GA (ty:=ty) (q2:=q2) h3 hz hxa ha hj hfr he hsz (ns:=(l.drop i).take k) (λe he=>hw2 e (List.mem_of_mem_drop (List.mem_of_mem_take he))) hcs (b:=b) (by rw[hkl];exact hk) hsrc;rw[hkl]at hrun G';unfold Oper.wp;rw[An];simp only[builtin,List.map_toArray,List.map_cons,List.map_nil,e1,Sem.run_bind,hrun,Result.andThen_ok,Sem.run_pure];refine⟨m',N,_,rfl,?_,G',(h4.mono hle).put hd (Au _)⟩;rw[List.map_set,h2'];rfl
def Ct(X c:Nat)(u0:Value):AV->Value->Prop:=λv u=>v= .sl X 0 c/\u=u0
def Fq(c:Nat)(u0:Value):Prop:=∃A,u0= .slice A c c
theorem Gp{m:Mem}{c:Nat}{u0:Value}{bs:List Nat}{L:Loc}(hc:Fq c u0)(h:ORel m Z (.tv (Ct X c u0)) bs)(hL:m.μ X=some L):(L.isNil=true/\c=0)\/(L.isNil=false/\c=L.cap):=by
 obtain⟨_,_,h⟩:=h;obtain⟨A,rfl⟩:=hc;obtain⟨_,_,A',q,e1,hs⟩:=h _ _ ⟨rfl,rfl⟩;injection e1 with e1
 injection e1 with e2 e3 e4
 subst e2 e4;rcases hs L hL with⟨h5,_,_,h6⟩|⟨h5,h6,o,h7,_⟩
 ·exact .inl ⟨h5,h6⟩
 ·injection h7 with _ _ h8
  exact .inr ⟨h5,by omega⟩
theorem OpT.cap{n c:Nat}{u0:Value}(he:BM P t=some te)(hc:Fq c u0):OpT P ⟨dst,.call ⟨.builtin .cap,#[x],#[t]⟩,ty,pos,after,g⟩ [(x,.sl X 0 n)] [(p,(X,.row te sz l)),(q,(Z,.tv (Ct X c u0)))] (.prim (.int .i64 c)) []:=
 .pure_ λm a hx hS=>by
  obtain⟨bs,hO⟩:=hS (p,(X,.row te sz l)) (by simp);obtain⟨bs2,hO2⟩:=hS (q,(Z,.tv (Ct X c u0))) (by simp);obtain⟨hU,L,hL,hLs,_⟩:=hO;have hcl:=Gp hc hO2 hL;obtain⟨_,hU',A,d,e1,hs⟩:=hx (x,.sl X 0 n) (by simp);injection e1 with e1
  simp only at e1
  have hd:d=c:=by
   rcases hs L hL with⟨h5,e2,_,h6⟩|⟨h5,h6,o,h7,_⟩
   ·injection e2 with _ _ e3
    rcases hcl with⟨_,h⟩|⟨h,_⟩
    ·omega
    ·rw[h5]at h;cases h
   ·injection h7 with _ _ h8
    rcases hcl with⟨h,_⟩|⟨_,h⟩
    ·rw[h5]at h;cases h
    ·omega
  subst hd;refine⟨_,?_,Au (.int .i64 d)⟩;rw[An];simp[builtin,Builtin.cap_,e1,run_underlying (Ar he),Sem.run_bind,Sem.run_pure,Result.andThen_ok,goInt]
theorem OpT.slice_cap{k:IntKind}{n c hi:Nat}{qi:Int}{u0:Value}(he:BM P t=some te)(hsz:tSz P te=some sz)(hc:Fq c u0)(hq:qi=(hi:Int))(hh:hi<=c):OpT P ⟨dst,.slice t x none (some y) none,ty,pos,after,g⟩ [(x,.sl X 0 n),(y,.prim (.int k qi))] [(p,(X,.row te sz l)),(q,(Z,.tv (Ct X c u0)))] (.sl X 0 hi) []:=
 .pure_ λm a hx hS=>by
  obtain⟨bs,hO⟩:=hS (p,(X,.row te sz l)) (by simp);obtain⟨bs2,hO2⟩:=hS (q,(Z,.tv (Ct X c u0))) (by simp);obtain⟨hU,L,hL,hLs,_⟩:=hO;have hcl:=Gp hc hO2 hL;obtain⟨_,hU',A,d,e1,hs⟩:=hx (x,.sl X 0 n) (by simp);have hy:=(hx (y,.prim (.int k qi)) (by simp)).prim;injection e1 with e1
  simp only at e1 hy;subst hq;rcases hs L hL with⟨h5,e2,_,h6⟩|⟨h5,h6,o,h7,h8⟩
  ·have hc0:c=0:=by
    rcases hcl with⟨_,h⟩|⟨h,_⟩
    ·exact h
    ·rw[h5]at h;cases h
   injection e2 with e2 e3 e4
   subst e2 e4;obtain rfl:hi=0:=by omega
   have hr:=Bz (P:=P) (w:=m.w) he hsz (A:=none) (len:=n) (cap:=0) (lo:=0) (hi:=0) (vl:=none) (vh:=some (.int k 0)) (by simp) (by simp) (λu hu=>⟨k,by injection hu with hu;exact hu.symm⟩) (by simp) (by omega) (by omega);refine⟨_,by simp only[execOp,Option.map_none,Option.map_some,e1,hy,Sem.run_bind,Int.natCast_zero,hr,Result.andThen_ok];rfl,rfl,hU',_,_,rfl,λL' hL'=>?_⟩;rw[hL]at hL';injection hL' with hL';subst hL'
   exact .inl ⟨h5,by simp,rfl,rfl⟩
  ·have hcc:c=L.cap:=by
    rcases hcl with⟨h,_⟩|⟨_,h⟩
    ·rw[h5]at h;cases h
    ·exact h
   injection h7 with e4 e5 e6
   subst e4 e6;have hr:=Bz (P:=P) (w:=m.w) he hsz (A:=some ⟨L.blk,o,none⟩) (len:=n) (cap:=L.cap-0) (lo:=0) (hi:=hi) (vl:=none) (vh:=some (.int k hi)) (by simp) (by simp) (λu hu=>⟨k,by injection hu with hu;exact hu.symm⟩) (by simp) (by omega) (by omega);refine⟨_,by simp only[execOp,Option.map_none,Option.map_some,e1,hy,Sem.run_bind,hr,Result.andThen_ok];rfl,rfl,hU',_,_,rfl,λL' hL'=>?_⟩;rw[hL]at hL';injection hL' with hL';subst hL'
   refine .inr ⟨h5,by omega,o,?_,h8⟩;simp only[Nat.zero_mul,Nat.sub_zero];split
   ·rfl
   ·rw[CI,Nat.add_zero]
end
section
variable {ro:Option Nat}{P:Program}{nt p sz X:Nat}{t:TypeId}{l:List AV}
theorem Ma{st:St}(hS:At st.S p (X,.row t sz l)):CS nt st λst'=>∃Z c u0,Fq c u0/\l.length<=c/\st'=⟨st.T,(Z,.tv (Ct X c u0))::st.S⟩:=by
 rintro m0 a w ⟨m,N,W,rfl,h2,h3,h4⟩;have hSp:=hS.get;rw[<-show W.map (·.1)=st.S from h2,List.getElem?_map]at hSp;cases hz:W[p]? with
 |none=>rw[hz]at hSp;cases hSp
 |some z=>
  rw[hz]at hSp;simp only[Option.map_some,Option.some.injEq]at hSp;obtain⟨z1,bs⟩:=z;simp only at hSp;subst hSp;obtain⟨hU,L,hL,hLs,hO⟩:=h3.obj _ (List.mem_of_getElem? hz)
  obtain⟨c,u0,hcv,hlc,hvv⟩:∃c u0,Fq c u0/\l.length<=c/\VV m (.sl X 0 c) u0 []:=by
   rcases hO with⟨h5,h6,_⟩|⟨h5,arr,bs',_,_,_,h6,_⟩
   ·refine⟨0,.slice none 0 0,⟨none,rfl⟩,by rw[h6];simp,rfl,hU,_,_,rfl,λL' hL'=>?_⟩
    rw[hL]at hL';injection hL' with hL';subst hL'
    exact .inl ⟨h5,rfl,rfl,rfl⟩
   ·refine⟨L.cap,.slice (some ⟨L.blk,0,none⟩) L.cap L.cap,⟨_,rfl⟩,h6,rfl,hU,_,_,rfl,λL' hL'=>?_⟩
    rw[hL]at hL';injection hL' with hL';subst hL'
    exact .inr ⟨h5,by omega,0,by simp,λ_=>by simp⟩
  obtain⟨G',hle⟩:=h3.note (Ct X c u0) (λv u h=>by rw[h.1,h.2];exact hvv) _ rfl;exact⟨⟨st.T,(N,.tv (Ct X c u0))::st.S⟩,⟨{m with U:=λy=>m.U y\/y=N},N+1,_,rfl,by rw[List.map_cons,show W.map (·.1)=st.S from h2],G',h4.mono hle⟩,N,c,u0,hcv,hlc,rfl⟩
theorem AWP.cap{cd:Code}{Q:Exit->St->Prop}{T:List (Nat×AV)}{S:List AA}(X:Nat)(k:∀Z c u0,Fq c u0->l.length<=c->AWP ro P nt cd Q ⟨T,(Z,.tv (Ct X c u0))::S⟩)(hS:At S p (X,.row t sz l):=by exact At.f):AWP ro P nt cd Q ⟨T,S⟩:=.ghost (Ma hS) (by rintro _ ⟨Z,c,u0,h1,h2,rfl⟩;exact k Z c u0 h1 h2)
end
end
section
open Go.RowKit
section
variable {P:Program}{dst:Option Tmp}{ty t te tx:TypeId}{pos:String}{after:Array Edge}{g:Option (Nat×Bool)}{x y:Operand}{p q r sz X Y Z:Nat}{l:List AV}
theorem OpT.appz_grow{kq:IntKind}{qi:Int}{i k c by_:Nat}{u0:Value}{zl:List Value}{ag:Bool}(T:IG P t=some (te,sz,by_))(hz:tZ P te=some zl)(hag:ag=true\/zl.length=1)(hzs:zl.length=sz)(htx:Lv P tx=true)(hq:qi=(k:Int))(h0:0<k)(hb:(i+k)*by_<=140737488355328)(hby:0<by_)
  (hc:Fq c u0) (hroom:c<i+k) (hi:i<=l.length) (hfr:FreeL l):
  OpT P ⟨dst,.call ⟨.builtin .append,#[x,y],#[t,tx]⟩,ty,pos,after,g⟩ [(x,.sl X 0 i),(y,.prim (.int kq qi))] [(p,(X,.row te sz l)),(q,(Z,.tv (Ct X c u0))),(r,(Y,.gone))] (.sl Y 0 (i+k)) [(r,(Y,.row te sz (l.take i++List.replicate k (zAV zl ag))))]:=by
 subst hq;obtain⟨inf,z,ht,hti,hiz,h3,h4,hzs',hsz⟩:=Ft T;obtain⟨i',zv,hi',hzv,hzl,ho⟩:=Ed hz;rw[hti]at hi';injection hi' with hi'
 subst hi';rw[hiz]at hzv;injection hzv with hzv
 subst hzv;obtain⟨kk,hk⟩:=Jf htx;have hnm:i+k<=140737488355328:=Nat.le_trans (Nat.le_mul_of_pos_right _ hby) hb;intro nt m0 T0 S a w hx hS hd hr;obtain⟨m,N,W,rfl,h2,h5,h6⟩:=hr;have h2':W.map (·.1)=S:=h2;have hxa:VV m (.sl X 0 i) (a.eval x) []:=h6.ev (hx (x,.sl X 0 i) (by simp));have hya:=(h6.ev (hx (y,.prim (.int kq (k:Int))) (by simp))).prim;simp only at hya;have hSp:=hS (p,(X,.row te sz l)) (by simp);have hSq:=hS (q,(Z,.tv (Ct X c u0))) (by simp);have hSr:=hS (r,(Y,.gone)) (by simp);rw[<-h2',List.getElem?_map]at hSp hSq hSr;cases hzp:W[p]? with
 |none=>rw[hzp]at hSp;cases hSp
 |some zp=>
 cases hzq:W[q]? with
 |none=>rw[hzq]at hSq;cases hSq
 |some zq=>
 cases hzr:W[r]? with
 |none=>rw[hzr]at hSr;cases hSr
 |some zr=>
  rw[hzp]at hSp;rw[hzq]at hSq;rw[hzr]at hSr;simp only[Option.map_some,Option.some.injEq]at hSp hSq hSr;obtain⟨zp1,bsp⟩:=zp;obtain⟨zq1,bsq⟩:=zq;obtain⟨zr1,bsr⟩:=zr;simp only at hSp hSq hSr;subst hSp hSq hSr;have hO:=h5.obj _ (List.mem_of_getElem? hzp);obtain⟨hU,L,hL,hLs,hO⟩:=hO;have hcl:=Gp hc (h5.obj _ (List.mem_of_getElem? hzq)) hL;obtain⟨_,hU',A,d,e1,hs⟩:=hxa;injection e1 with e1
  obtain⟨hdc,cs,hcs,hold⟩:d=c/\∃cs,VCs m (l.take i) cs []/\(Builtin.firstCells inf.size i (.slice A i d)).run P m.w.drew= .ok cs.toArray m.w.drew:=by
   rcases hs L hL with⟨h7,e2,_,e3⟩|⟨h7,h8,o,e2,h9⟩
   ·injection e2 with e4 e5 e6
    subst e4 e6 e3;refine⟨?_,[],by simpa using⟨rfl,rfl⟩,by exact run_firstCells_none m.w.drew _ 0 0 0⟩;rcases hcl with⟨_,h⟩|⟨h,_⟩
    ·omega
    ·rw[h7]at h;cases h
   ·injection e2 with e4 e5 e6
    subst e4 e6
    have hcc:c=L.cap:=by
     rcases hcl with⟨h,_⟩|⟨_,h⟩
     ·rw[h7]at h;cases h
     ·exact h
    refine⟨by omega,?_⟩;rcases hO with⟨h10,_⟩|⟨hnil,arr,bs',hbs,hb2,harr,hlc,hcap,hw,hv⟩
    ·rw[h7]at h10;cases h10
    ·obtain⟨p1,p2,e7,h11,h12⟩:=VCs.take hw hv (k:=i) hi
     have h13:=(hfr.sub λe he=>List.mem_of_mem_take he).vcs h11;rw[h13]at h11;have ho:o=0:=by rw[h9 (.inr rfl),Nat.zero_mul]
     subst ho;have hsz0:l.length*sz<=arr.toList.length:=by rw[show arr.toList.length=arr.size from Array.length_toList,harr];exact Nat.mul_le_mul_right _ hlc
     have hle:i*sz<=l.length*sz:=Nat.mul_le_mul_right _ hi;refine⟨_,h11,run_firstCells_some (P:=P) m.w.drew inf.size i _ i _ _ ?_ λj v hj=>?_⟩
     ·rw[h3];simp only[List.length_take];omega
     ·rw[CI,Nat.zero_add]
      rw[List.getElem?_take]at hj;split at hj
      ·rw[List.getElem?_take]at hj
       split at hj
       ·show m.w.cell? _=_
        simp only[World.cell?,hb2];rw[<-Array.getElem?_toList];exact hj
       ·cases hj
      ·cases hj
  subst hdc;have hgc:Builtin.nextslicecap (i+k) d*inf.bytes<=281474976710656:=growslice_fits hroom (by rw[h4];exact hb);have hkb:k*by_<=(i+k)*by_:=Nat.mul_le_mul_right _ (by omega);have hrun:=Fb (P:=P) (ty:=ty) m.w ht hk hti hiz (by rw[hzs',h3]) A i d cs hold kq k (by omega) (by rw[h4];omega) (by rw[h3];exact Nat.ne_of_gt (Nat.mul_pos h0 hsz)) hroom (by omega) hgc;have hge:=grownCap_ge m.w (i+k) d te;have hcm:=grownCap_le_maxLen m.w (i+k) d te (by unfold maxLen;omega);obtain⟨G,hG⟩:∃G,grownCap m.w (i+k) d te=G:=⟨_,rfl⟩;rw[hG]at hrun hge hcm;have hzc:∀j,(Builtin.zeroCells z.cells j).toList=(List.replicate j zl).flatten:=λj=>by rw[Builtin.zeroCells,Dw,hzl]
  have hwl:∀e∈l.take i,e.width=sz:=λe he=>by
   rcases hO with⟨_,h10,_⟩|⟨_,_,_,_,_,_,_,_,hw,_⟩
   ·rw[h10]at he;simp at he
   ·exact hw e (List.mem_of_mem_take he)
  have hti2:(l.take i).length=i:=by rw[List.length_take];omega
  have hcl2:cs.length=i*sz:=by rw[VCs.len _ hcs,Aw hwl,hti2]
  obtain⟨R,hp1,hp2⟩:=BF hzr;have hlen:(l.take i++List.replicate k (zAV zl ag)).length=i+k:=by rw[List.length_append,hti2,List.length_replicate]
  obtain⟨G',hle⟩:=FY (t:=te) (sz:=sz) (l:=l.take i++List.replicate k (zAV zl ag)) (arr:=(cs.toArray++Builtin.zeroCells z.cells k)++Builtin.zeroCells z.cells (G-(i+k))) (cap:=G) (h5.perm hp1).drew (by
    simp only[Array.toList_append,hzc,hlen];rw[List.take_left' (by simp[hzs,hcl2,Nat.add_mul])];exact(VCs.mono (Ef m) _ (λ_ _=>rfl) hcs).append (CH _ (El _ ho hag) k)) (by
    simp only[Array.size_append,size_zeroCells,hzs',List.size_toArray,hcl2];rw[<-Nat.add_mul,<-Nat.add_mul]
    congr 1
    omega) (by rw[hlen];exact hge) hcm (λe he=>by
    rcases List.mem_append.1 he with he|he
    ·exact hwl e he
    ·rw[List.eq_of_mem_replicate he,<-VC.len _ (El m ho hag),hzs]) _ rfl
  unfold Oper.wp;rw[An];simp only[builtin,List.map_toArray,List.map_cons,List.map_nil,e1,hya,Sem.run_bind,hrun,Result.andThen_ok,Sem.run_pure];refine⟨_,N,W.set r ((Y,.row te sz (l.take i++List.replicate k (zAV zl ag))),[m.w.heap.size]),rfl,?_,G'.perm (hp2 _).symm,((h6.mono (Ef m)).mono hle).put hd ?_⟩
  ·rw[List.map_set,h2'];rfl
  ·refine⟨rfl,.inr rfl,_,_,rfl,λL' hL'=>?_⟩
   simp only[if_true,Option.some.injEq]at hL';subst hL';exact .inr ⟨rfl,by simpa using hge,0,by simp,λ_=>by simp⟩
end
end
section
open Go.RowKit
section
variable {P:Program}{dst:Option Tmp}{ty t te tx:TypeId}{pos:String}{after:Array Edge}{g:Option (Nat×Bool)}{x y:Operand}{p q r sz X Y Z V:Nat}{l l2:List AV}
theorem OpT.overlaps{f:FuncId}{fn:Func}{tR:TypeId}{ats:Array TypeId}{m j k:Nat}(hf:P.funcs[f]?=some fn)(hname:(fn.name== "runtime.NumGoroutine")=false)(hb:fn.body.isNone=true)(hn:Extern.findNext fn=none)(hx0:Extern.find fn=some (Extern.SlicesOverlaps.overlaps #[t,t] #[tR]))
  (he:BM P t=some te) (hsz:tSz P te=some sz) (h0:0<sz) (hm:0<m) (hk:0<k) (hpq:p≠q):
  OpT P ⟨dst,.call ⟨.value (.func f),#[x,y],ats⟩,ty,pos,after,g⟩ [(x,.sl V 0 m),(y,.sl X j k)] [(p,(V,.row te sz l2)),(q,(X,.row te sz l))] (.prim (.bool false)) []:=by
 intro nt m0 T S a w hx hS hd hr;obtain⟨m1,N,W,rfl,h2,h3,h4⟩:=hr;have h2':W.map (·.1)=S:=h2;have hxa:VV m1 (.sl V 0 m) (a.eval x) []:=h4.ev (hx (x,.sl V 0 m) (by simp));have hya:VV m1 (.sl X j k) (a.eval y) []:=h4.ev (hx (y,.sl X j k) (by simp));have hSp:=hS (p,(V,.row te sz l2)) (by simp);have hSq:=hS (q,(X,.row te sz l)) (by simp);rw[<-h2',List.getElem?_map]at hSp hSq;cases hzp:W[p]? with
 |none=>rw[hzp]at hSp;cases hSp
 |some zp=>
 cases hzq:W[q]? with
 |none=>rw[hzq]at hSq;cases hSq
 |some zq=>
  rw[hzp]at hSp;rw[hzq]at hSq;simp only[Option.map_some,Option.some.injEq]at hSp hSq;obtain⟨zp1,bsp⟩:=zp;obtain⟨zq1,bsq⟩:=zq;simp only at hSp hSq;subst hSp hSq;obtain⟨R,hp1,_⟩:=C1 hpq hzp hzq;have G:=h3.perm hp1;have hown:=G.own;obtain⟨_,L,hL,hLs,hO⟩:=G.obj _ (List.mem_cons_self ..);obtain⟨_,L2,hL2,hLs2,hO2⟩:=G.obj ((X,.row te sz l),bsq) (by simp);obtain⟨_,_,A,d,e1,hs⟩:=hxa;obtain⟨_,_,A2,d2,e2,hs2⟩:=hya;injection e1 with e1
  injection e2 with e2
  rcases hs L hL with⟨_,_,_,h⟩|⟨n1,c1,o1,v1,_⟩
  ·omega
  rcases hs2 L2 hL2 with⟨_,_,_,h⟩|⟨n2,c2,o2,v2,_⟩
  ·omega
  rcases hO with⟨h,_⟩|⟨_,arr,b1,rfl,hb1,hsz1,_⟩
  ·rw[n1]at h;cases h
  rcases hO2 with⟨h,_⟩|⟨_,arr2,b2,rfl,hb2,hsz2,_⟩
  ·rw[n2]at h;cases h
  have hne:L.blk≠L2.blk:=by
   intro e;rw[Ao,Ao]at hown;simp[e]at hown
  injection v1 with v1 _ _
  injection v2 with v2 _ _
  subst v1 v2
  have hrun:=Lib.run_overlaps_apart (P:=P) m1.w t tR te (Ar he) sz (λw=>by
   unfold tSz at hsz;cases hq:P.info? te with
   |none=>rw[hq]at hsz;cases hsz
   |some i=>rw[hq]at hsz;injection hsz with hsz;simp[sizeOf,typeInfo,hq,hsz,Sem.run_bind,Sem.run_pure,Result.andThen_ok]) ⟨L.blk,o1,none⟩ ⟨L2.blk,o2,none⟩ m d k d2 hne te te arr.size arr2.size (by simp[World.shape?,hb1]) (by simp[World.shape?,hb2]) (by rw[hsz2];exact Nat.ne_of_gt (Nat.mul_pos (by omega) h0)) (by simp[World.frozen?,hb1]) (by simp[World.frozen?,hb1])
  have hcall:=run_callFunc_extern (P:=P) hf hname hb hn hx0 #[a.eval x,a.eval y] m1.w;rw[e1,e2,hrun]at hcall
  have hexec:(execOp a.eval ⟨dst,.call ⟨.value (.func f),#[x,y],ats⟩,ty,pos,after,g⟩).run P m1.w= .ok (.value (.bool false)) m1.w:=by
   have ha:∀f,a.eval (.func f)= .func (.func f) #[] #[]:=λ_=>rfl
   simp[execOp,resolve,ha,Deferred.ofValue,invoke,e1,e2,hcall,Result.andThen_ok]
  unfold Oper.wp;rw[hexec];exact⟨m1,N,W,rfl,h2,h3,h4.put hd (Au _)⟩
end
section
variable {P:Program}{dst:Option Tmp}{ty t te tx ty2:TypeId}{pos:String}{after:Array Edge}{g:Option (Nat×Bool)}{x y:Operand}{p q r sz X Y Z V by_:Nat}{l l2:List AV}{T:List (Nat×AV)}{S:List AA}{c:Option (List Bool)}{k k' k0:IntKind}{qi qj:Int}
theorem W.copyO{j a i b:Nat}(n:Nat)[TEl P t te][TSize P te sz](hx:Rd c T x (.sl X j a))(hy:Rd c T y (.sl Y i b))(hSp:At S p (X,.row te sz l))(hSq:At S q (Y,.row te sz l2))(hpq:Nat.beq p q=false)(ha:0<a)(hb:0<b)(hk:n=min b a)(hj:j<=l.length)(hi:i+n<=l2.length)(hfr:FreeL l)(hfr2:FreeL l2)(hw2:∀e∈l2,e.width=sz):
  Stp c P ⟨dst,.call ⟨.builtin .copy,#[x,y],#[t,t]⟩,ty,pos,after,g⟩ T S [(x,.sl X j a),(y,.sl Y i b)] [(p,(X,.row te sz l)),(q,(Y,.row te sz l2))] (.prim (.int .i64 n)) [(p,(X,.row te sz (l.take j++(l2.drop i).take n++l.drop (j+n))))]:=
 ⟨.copyO n TEl.h TSize.h ha hb hk hj hi hfr hfr2 hw2 (Nat.ne_of_beq_eq_false hpq),.cons hx (.cons hy .nil),.cons hSp (.cons hSq .nil)⟩
theorem W.copyS{j a i b:Nat}(n:Nat)[TEl P t te][TSize P te sz](hx:Rd c T x (.sl X j a))(hy:Rd c T y (.sl X i b))(hSp:At S p (X,.row te sz l))(ha:0<a)(hb:0<b)(hk:n=min b a)(hj:j<=l.length)(hi:i+n<=l.length)(hfr:FreeL l)(hw2:∀e∈l,e.width=sz):
  Stp c P ⟨dst,.call ⟨.builtin .copy,#[x,y],#[t,t]⟩,ty,pos,after,g⟩ T S [(x,.sl X j a),(y,.sl X i b)] [(p,(X,.row te sz l))] (.prim (.int .i64 n)) [(p,(X,.row te sz (l.take j++(l.drop i).take n++l.drop (j+n))))]:=
 ⟨.copyS n TEl.h TSize.h ha hb hk hj hi hfr hw2,.cons hx (.cons hy .nil),.cons hSp .nil⟩
theorem W.cap{n cc:Nat}{u0:Value}[TEl P t te](hc:Fq cc u0)(hx:Rd c T x (.sl X 0 n))(hSp:At S p (X,.row te sz l))(hSq:At S q (Z,.tv (Ct X cc u0))):
  Stp c P ⟨dst,.call ⟨.builtin .cap,#[x],#[t]⟩,ty,pos,after,g⟩ T S [(x,.sl X 0 n)] [(p,(X,.row te sz l)),(q,(Z,.tv (Ct X cc u0)))] (.prim (.int .i64 cc)) []:=
 ⟨.cap TEl.h hc,.cons hx .nil,.cons hSp (.cons hSq .nil)⟩
theorem LW{n cc:Nat}{u0:Value}(hi:Nat)[TEl P t te][TSize P te sz](hc:Fq cc u0)(hx:Rd c T x (.sl X 0 n))(hy:Rd c T y (.prim (.int k qi)))(hSp:At S p (X,.row te sz l))(hSq:At S q (Z,.tv (Ct X cc u0)))(hq:qi=(hi:Int))(hh:hi<=cc):
  Stp c P ⟨dst,.slice t x none (some y) none,ty,pos,after,g⟩ T S [(x,.sl X 0 n),(y,.prim (.int k qi))] [(p,(X,.row te sz l)),(q,(Z,.tv (Ct X cc u0)))] (.sl X 0 hi) []:=
 ⟨.slice_cap TEl.h TSize.h hc hq hh,.cons hx (.cons hy .nil),.cons hSp (.cons hSq .nil)⟩
theorem MZ{i cc:Nat}{u0:Value}{zl:List Value}{ag:Bool}(n:Nat)[TRo P t te sz by_][TZe P te zl][TAg P te ag](hc:Fq cc u0)(hx:Rd c T x (.sl X 0 i))(hy:Rd c T y (.prim (.int k qi)))(hSp:At S p (X,.row te sz l))(hSq:At S q (Z,.tv (Ct X cc u0)))(hSr:At S r (Y,.gone))(hq:qi=(n:Int))(hag:ag=true\/zl.length=1)(hzs:zl.length=sz)(htx:Lv P tx=true)(h0:0<n)(hb:(i+n)*by_<=140737488355328)(hby:0<by_)(hroom:cc<i+n)(hi:i<=l.length)(hfr:FreeL l):
  Stp c P ⟨dst,.call ⟨.builtin .append,#[x,y],#[t,tx]⟩,ty,pos,after,g⟩ T S [(x,.sl X 0 i),(y,.prim (.int k qi))] [(p,(X,.row te sz l)),(q,(Z,.tv (Ct X cc u0))),(r,(Y,.gone))] (.sl Y 0 (i+n)) [(r,(Y,.row te sz (l.take i++List.replicate n (zAV zl ag))))]:=
 ⟨.appz_grow TRo.h TZe.h hag hzs htx hq h0 hb hby hc hroom hi hfr,.cons hx (.cons hy .nil),.cons hSp (.cons hSq (.cons hSr .nil))⟩
theorem W.over{f:FuncId}{fn:Func}{tR:TypeId}{ats:Array TypeId}{m j n:Nat}[TEl P t te][TSize P te sz](hf:P.funcs[f]?=some fn)(hname:(fn.name== "runtime.NumGoroutine")=false)(hb:fn.body.isNone=true)(hn:Extern.findNext fn=none)(hx0:Extern.find fn=some (Extern.SlicesOverlaps.overlaps #[t,t] #[tR]))
  (hx:Rd c T x (.sl V 0 m)) (hy:Rd c T y (.sl X j n)) (hSp:At S p (V,.row te sz l2)) (hSq:At S q (X,.row te sz l)) (hpq:Nat.beq p q=false) (h0:0<sz) (hm:0<m) (hk:0<n):
  Stp c P ⟨dst,.call ⟨.value (.func f),#[x,y],ats⟩,ty,pos,after,g⟩ T S [(x,.sl V 0 m),(y,.sl X j n)] [(p,(V,.row te sz l2)),(q,(X,.row te sz l))] (.prim (.bool false)) []:=
 ⟨.overlaps hf hname hb hn hx0 TEl.h TSize.h h0 hm hk (Nat.ne_of_beq_eq_false hpq),.cons hx (.cons hy .nil),.cons hSp (.cons hSq .nil)⟩
theorem W.shr(n:Nat)(hx:Rd c T x (.prim (.int k qi)))(hy:Rd c T y (.prim (.int k' qj)))(hj:qj=(n:Int))(hn:n<=k.bits):
  Stp c P ⟨dst,.binOp .shr t x y ty2,ty,pos,after,g⟩ T S [(x,.prim (.int k qi)),(y,.prim (.int k' qj))] [] (.prim (.int k (qi.fdiv (2^n)))) []:=⟨.shr hj hn,.cons hx (.cons hy .nil),.nil⟩
theorem W.conv(k0 k':IntKind){t2:TypeId}(h1:P.underlying t=some (.int k0))(h2:P.underlying t2=some (.int k'))(hx:Rd c T x (.prim (.int k qi)))(hw:k'.wrap qi=qi):
  Stp c P ⟨dst,.convert t t2 x,ty,pos,after,g⟩ T S [(x,.prim (.int k qi))] [] (.prim (.int k' qi)) []:=⟨.conv h1 h2 hw,.cons hx .nil,.nil⟩
end
end
end Go.Proofs.Ytaodhkbppgenbaa
