/-
  ROWS THAT LET THE CLOCK PASS.
-/
import Derived.Conc.HoldsTime
import Derived.LaidLaws
namespace Go.BL
open Go.Conc
set_option linter.unusedVariables false
variable {H:Type} {enc:TypeId × Value→H}
theorem wit_calm {C:Checked} {os:Os} {f:FuncId} {fn:Func} {s:ChangeSpec} {conds:List PathCond} {apart:Bool} {X:World→Array Value→Prop} (w0:World) (args:Array Value) (fuel:Nat) (hos:w0.os=os)
  (hsh:(w0.forCall (fun _ _=>0) ⟨#[],args,[]⟩).Shaped C.prog)
  (hok:Input.okWideB C.prog (w0.forCall (fun _ _=>0) ⟨#[],args,[]⟩) f ⟨#[],args,[]⟩=true)
  (hpre:s.preB enc C.prog fn conds apart (w0.forCall (fun _ _=>0) ⟨#[],args,[]⟩).memory args fuel=true)
  (hsz:s.sizedB enc C.prog fn apart (w0.forCall (fun _ _=>0) ⟨#[],args,[]⟩).memory args fuel=true)
  (hx:X (w0.forCall (fun _ _=>0) ⟨#[],args,[]⟩).memory args) :
∃(w:World) (tape:Tape) (i:Input),w.os=os∧(w.forCall tape i).Shaped C.prog∧i.vars=[]∧Input.okWide C.prog (w.forCall tape i) .any w.heap.size f i∧
   ((s.pre enc C.prog fn conds apart (w.forCall tape i).memory i.args∧X (w.forCall tape i).memory i.args)∧sizedMet enc C.prog fn (OpenSpec.ofChange s) apart (w.forCall tape i).memory i.args)∧({ calm:=true } : Assume).holds C.prog (lone (Frame.enter C.prog f i.args .normal) [] (w.forCall tape i)):=
 ⟨w0,fun _ _=>0,⟨#[],args,[]⟩,hos,hsh,(Input.okWide_of_okWideB (base:=0) hok).1,(Input.okWide_of_okWideB hok).2,⟨⟨ChangeSpec.pre_of_preB hpre,hx⟩,sizedMet_of_sizedB hsz⟩,by
  simp only [Assume.holds]
  exact ⟨by simp,fun _ _ _ _=>rfl,by simp,by simp,by simp⟩⟩
theorem post_time {P:Program} {f:Func} {s:ChangeSpec} {F:Stop.Interp} {apart fresh handsOn:Bool} {W W':World} {args:Array Value} {v:Value} (h:s.post enc P f apart fresh handsOn false W args v W') :
  (OpenSpec.ofChange s).postWith enc P f F (outsideKept [.timePasses]) apart fresh handsOn W args v W':=by
 have e:W'.os=W.os:=by
  obtain ⟨_,_,_,_,_,_,_,_,_,_,h5,_⟩:=h
  exact h5.1
 have e2:({ W' with os:=W.os } : World)=W':=by rw [← e]
 exact postWith_of_post (by rw [e2];exact h) ⟨0,e⟩
theorem lifted_time {a:Assume} {C:Checked} {os:Os} {f:FuncId} {fn:Func} {s:ChangeSpec} {apart fresh handsOn:Bool} {Pre:World→Array Value→Prop} {F:Stop.Interp} (h:ReturnsInLeavingWide a C os f .any Pre (s.post enc C.prog fn apart fresh handsOn false)) :
  ReturnsInLeavingWide a C os f .any Pre ((OpenSpec.ofChange s).postWith enc C.prog fn F (outsideKept [.timePasses]) apart fresh handsOn):=fun enter=>by
 obtain ⟨x1,x2,x3,x4,x5⟩:=h enter
 refine ⟨x1,x2,x3,x4,fun w tape i hf=>?_⟩
 obtain ⟨n,v,w',r1,r2,r3,r4,r5⟩:=x5 w tape i hf
 exact ⟨n,v,w',r1,r2,r3,post_time r4,r5⟩
end Go.BL
