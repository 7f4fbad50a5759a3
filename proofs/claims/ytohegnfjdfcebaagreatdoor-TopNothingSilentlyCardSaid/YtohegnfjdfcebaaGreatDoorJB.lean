/-
  What is proved here serves the law's text: each part says its own claim and its conditions. No condition is left open.
-/
import Derived.Test.YtohegnfjdfcebaaGreatDoorJA
import Derived.Test.YtohegnfjdfcebaaGreatDoorKY
set_option maxHeartbeats 32000000
set_option maxRecDepth 100000
set_option linter.unusedSimpArgs false
set_option linter.unusedVariables false

namespace Go.Ab.V
open Go.Proofs
def A182:Ann:=fun r=>match r with
 |0=>{ slots:=[(0,0)] }
 |1=>{ slots:=[(0,1)] }
 |_=>{}
def t_rfr:List (List UInt8):=[[],[46],[58],[39]]
theorem rfr_spec (m:Int):PRet C.P 182 [.agg [],.int .i64 m] (sbA (mkd t_rfr m)):=by
 refine pret_of (okx [] [184]) mixed (A:=A182) 2 Tryz.func182 rfl ?_
 (repeat' (first|exact rfl|((conv=>whnf);first|(refine ACalls.fz 1 ?_;(conv=>whnf);refine ⟨pure_strR t_rfr,by (repeat' (first|exact trivial|exact eqsP_rows _ (fun x=>rfl)|((conv=>whnf);first|exact trivial|refine ⟨rfl,?_⟩|refine ⟨?_,?_⟩|fail))),by (repeat' (first|exact trivial|exact eqsP_rows _ (fun x=>rfl)|((conv=>whnf);first|exact trivial|refine ⟨rfl,?_⟩|refine ⟨?_,?_⟩|fail))),by (repeat' (first|exact trivial|exact eqsP_rows _ (fun x=>rfl)|((conv=>whnf);first|exact trivial|refine ⟨rfl,?_⟩|refine ⟨?_,?_⟩|fail))),?_⟩;refine PRet.calls (mkd_spec t_rfr _ (by decide)) ?_)|exact rfl|exact ⟨rfl,rfl⟩|refine go1 ?_|(intro ep)|(refine ifB ?_ ?_<;>intro hb<;>(try simp only [qs] at hb)<;>(try simp (disch:=omega) only [wrapI] at hb)<;>(try (exfalso;omega)))|fail)))
def A176:Ann:=fun r=>match r with
 |0=>{ slots:=[(0,0)] }
 |1=>{ slots:=[(0,1)] }
 |_=>{}
def t_gfr:List (List UInt8):=[[],[44],[94],[35],[40]]
theorem gfr_spec (m:Int):PRet C.P 176 [.agg [],.int .i64 m] (sbA (mkd t_gfr m)):=by
 refine pret_of (okx [] [184]) mixed (A:=A176) 2 Tryz.func176 rfl ?_
 (repeat' (first|exact rfl|((conv=>whnf);first|(refine ACalls.fz 1 ?_;(conv=>whnf);refine ⟨pure_strR t_gfr,by (repeat' (first|exact trivial|exact eqsP_rows _ (fun x=>rfl)|((conv=>whnf);first|exact trivial|refine ⟨rfl,?_⟩|refine ⟨?_,?_⟩|fail))),by (repeat' (first|exact trivial|exact eqsP_rows _ (fun x=>rfl)|((conv=>whnf);first|exact trivial|refine ⟨rfl,?_⟩|refine ⟨?_,?_⟩|fail))),by (repeat' (first|exact trivial|exact eqsP_rows _ (fun x=>rfl)|((conv=>whnf);first|exact trivial|refine ⟨rfl,?_⟩|refine ⟨?_,?_⟩|fail))),?_⟩;refine PRet.calls (mkd_spec t_gfr _ (by decide)) ?_)|exact rfl|exact ⟨rfl,rfl⟩|refine go1 ?_|(intro ep)|(refine ifB ?_ ?_<;>intro hb<;>(try simp only [qs] at hb)<;>(try simp (disch:=omega) only [wrapI] at hb)<;>(try (exfalso;omega)))|fail)))
def A197:Ann:=fun r=>match r with
 |0=>{ slots:=[(0,0)] }
 |1=>{ slots:=[(0,1)] }
 |_=>{}
def t_rit:List (List UInt8):=[[],[46]]
theorem rit_spec (m:Int):PRet C.P 197 [.agg [],.int .i64 m] (sbA (mkd t_rit m)):=by
 refine pret_of (okx [] [184]) mixed (A:=A197) 2 Tryz.func197 rfl ?_
 (repeat' (first|exact rfl|((conv=>whnf);first|(refine ACalls.fz 1 ?_;(conv=>whnf);refine ⟨pure_strR t_rit,by (repeat' (first|exact trivial|exact eqsP_rows _ (fun x=>rfl)|((conv=>whnf);first|exact trivial|refine ⟨rfl,?_⟩|refine ⟨?_,?_⟩|fail))),by (repeat' (first|exact trivial|exact eqsP_rows _ (fun x=>rfl)|((conv=>whnf);first|exact trivial|refine ⟨rfl,?_⟩|refine ⟨?_,?_⟩|fail))),by (repeat' (first|exact trivial|exact eqsP_rows _ (fun x=>rfl)|((conv=>whnf);first|exact trivial|refine ⟨rfl,?_⟩|refine ⟨?_,?_⟩|fail))),?_⟩;refine PRet.calls (mkd_spec t_rit _ (by decide)) ?_)|exact rfl|exact ⟨rfl,rfl⟩|refine go1 ?_|(intro ep)|(refine ifB ?_ ?_<;>intro hb<;>(try simp only [qs] at hb)<;>(try simp (disch:=omega) only [wrapI] at hb)<;>(try (exfalso;omega)))|fail)))
def A192:Ann:=fun r=>match r with
 |0=>{ slots:=[(0,0)] }
 |1=>{ slots:=[(0,1)] }
 |_=>{}
def t_git:List (List UInt8):=[[],[116],[],[35]]
theorem git_spec (m:Int):PRet C.P 192 [.agg [],.int .i64 m] (sbA (mkd t_git m)):=by
 refine pret_of (okx [] [184]) mixed (A:=A192) 2 Tryz.func192 rfl ?_
 (repeat' (first|exact rfl|((conv=>whnf);first|(refine ACalls.fz 1 ?_;(conv=>whnf);refine ⟨pure_strR t_git,by (repeat' (first|exact trivial|exact eqsP_rows _ (fun x=>rfl)|((conv=>whnf);first|exact trivial|refine ⟨rfl,?_⟩|refine ⟨?_,?_⟩|fail))),by (repeat' (first|exact trivial|exact eqsP_rows _ (fun x=>rfl)|((conv=>whnf);first|exact trivial|refine ⟨rfl,?_⟩|refine ⟨?_,?_⟩|fail))),by (repeat' (first|exact trivial|exact eqsP_rows _ (fun x=>rfl)|((conv=>whnf);first|exact trivial|refine ⟨rfl,?_⟩|refine ⟨?_,?_⟩|fail))),?_⟩;refine PRet.calls (mkd_spec t_git _ (by decide)) ?_)|exact rfl|exact ⟨rfl,rfl⟩|refine go1 ?_|(intro ep)|(refine ifB ?_ ?_<;>intro hb<;>(try simp only [qs] at hb)<;>(try simp (disch:=omega) only [wrapI] at hb)<;>(try (exfalso;omega)))|fail)))
def A212:Ann:=fun r=>match r with
 |0=>{ slots:=[(0,0)] }
 |1=>{ slots:=[(0,1)] }
 |_=>{}
def t_rge:List (List UInt8):=[[],[46]]
theorem rge_spec (m:Int):PRet C.P 212 [.agg [],.int .i64 m] (sbA (mkd t_rge m)):=by
 refine pret_of (okx [] [184]) mixed (A:=A212) 2 Tryz.func212 rfl ?_
 (repeat' (first|exact rfl|((conv=>whnf);first|(refine ACalls.fz 1 ?_;(conv=>whnf);refine ⟨pure_strR t_rge,by (repeat' (first|exact trivial|exact eqsP_rows _ (fun x=>rfl)|((conv=>whnf);first|exact trivial|refine ⟨rfl,?_⟩|refine ⟨?_,?_⟩|fail))),by (repeat' (first|exact trivial|exact eqsP_rows _ (fun x=>rfl)|((conv=>whnf);first|exact trivial|refine ⟨rfl,?_⟩|refine ⟨?_,?_⟩|fail))),by (repeat' (first|exact trivial|exact eqsP_rows _ (fun x=>rfl)|((conv=>whnf);first|exact trivial|refine ⟨rfl,?_⟩|refine ⟨?_,?_⟩|fail))),?_⟩;refine PRet.calls (mkd_spec t_rge _ (by decide)) ?_)|exact rfl|exact ⟨rfl,rfl⟩|refine go1 ?_|(intro ep)|(refine ifB ?_ ?_<;>intro hb<;>(try simp only [qs] at hb)<;>(try simp (disch:=omega) only [wrapI] at hb)<;>(try (exfalso;omega)))|fail)))
def A207:Ann:=fun r=>match r with
 |0=>{ slots:=[(0,0)] }
 |1=>{ slots:=[(0,1)] }
 |_=>{}
def t_gge:List (List UInt8):=[[],[],[],[35]]
theorem gge_spec (m:Int):PRet C.P 207 [.agg [],.int .i64 m] (sbA (mkd t_gge m)):=by
 refine pret_of (okx [] [184]) mixed (A:=A207) 2 Tryz.func207 rfl ?_
 (repeat' (first|exact rfl|((conv=>whnf);first|(refine ACalls.fz 1 ?_;(conv=>whnf);refine ⟨pure_strR t_gge,by (repeat' (first|exact trivial|exact eqsP_rows _ (fun x=>rfl)|((conv=>whnf);first|exact trivial|refine ⟨rfl,?_⟩|refine ⟨?_,?_⟩|fail))),by (repeat' (first|exact trivial|exact eqsP_rows _ (fun x=>rfl)|((conv=>whnf);first|exact trivial|refine ⟨rfl,?_⟩|refine ⟨?_,?_⟩|fail))),by (repeat' (first|exact trivial|exact eqsP_rows _ (fun x=>rfl)|((conv=>whnf);first|exact trivial|refine ⟨rfl,?_⟩|refine ⟨?_,?_⟩|fail))),?_⟩;refine PRet.calls (mkd_spec t_gge _ (by decide)) ?_)|exact rfl|exact ⟨rfl,rfl⟩|refine go1 ?_|(intro ep)|(refine ifB ?_ ?_<;>intro hb<;>(try simp only [qs] at hb)<;>(try simp (disch:=omega) only [wrapI] at hb)<;>(try (exfalso;omega)))|fail)))
def A177:Ann:=fun r=>match r with
 |0=>{ slots:=[(0,0)] }
 |_=>{}
theorem hasFr_spec (m:Int):PRet C.P 177 [.agg [],.int .i64 m] (.bool (true)):=by
 refine pret_of ok mixed (A:=A177) 1 Tryz.func177 rfl ?_
 (repeat' (first|exact rfl|((conv=>whnf);first|exact rfl|refine ⟨by kernel_rfl,?_⟩|exact ⟨rfl,rfl⟩|refine go0 ?_|(intro ep)|(refine ifB ?_ ?_<;>intro hb<;>(try simp only [qs] at hb)<;>(try simp (disch:=omega) only [wrapI] at hb)<;>(try (exfalso;omega)))|fail)))
 all_goals (simp [*];done)
def A193:Ann:=fun r=>match r with
 |0=>{ slots:=[(0,0)] }
 |_=>{}
theorem hasIt_spec (m:Int):PRet C.P 193 [.agg [],.int .i64 m] (.bool (true)):=by
 refine pret_of ok mixed (A:=A193) 1 Tryz.func193 rfl ?_
 (repeat' (first|exact rfl|((conv=>whnf);first|exact rfl|refine ⟨by kernel_rfl,?_⟩|exact ⟨rfl,rfl⟩|refine go0 ?_|(intro ep)|(refine ifB ?_ ?_<;>intro hb<;>(try simp only [qs] at hb)<;>(try simp (disch:=omega) only [wrapI] at hb)<;>(try (exfalso;omega)))|fail)))
 all_goals (simp [*];done)
def A200:Ann:=fun r=>match r with
 |0=>{ slots:=[(0,0)] }
 |_=>{}
theorem hasSp_spec (m:Int):PRet C.P 200 [.agg [],.int .i64 m] (.bool (m !=8)):=by
 refine pret_of ok mixed (A:=A200) 1 Tryz.func200 rfl ?_
 (repeat' (first|exact rfl|((conv=>whnf);first|exact rfl|refine ⟨by kernel_rfl,?_⟩|exact ⟨rfl,rfl⟩|refine go0 ?_|(intro ep)|(refine ifB ?_ ?_<;>intro hb<;>(try simp only [qs] at hb)<;>(try simp (disch:=omega) only [wrapI] at hb)<;>(try (exfalso;omega)))|fail)))
 all_goals (simp [*];done)
def A208:Ann:=fun r=>match r with
 |0=>{ slots:=[(0,0)] }
 |_=>{}
theorem hasGe_spec (m:Int):PRet C.P 208 [.agg [],.int .i64 m] (.bool (decide (m=8))):=by
 refine pret_of ok mixed (A:=A208) 1 Tryz.func208 rfl ?_
 (repeat' (first|exact rfl|((conv=>whnf);first|exact rfl|refine ⟨by kernel_rfl,?_⟩|exact ⟨rfl,rfl⟩|refine go0 ?_|(intro ep)|(refine ifB ?_ ?_<;>intro hb<;>(try simp only [qs] at hb)<;>(try simp (disch:=omega) only [wrapI] at hb)<;>(try (exfalso;omega)))|fail)))
 all_goals (simp [*];done)
def A205:Ann:=fun r=>match r with
 |0=>{ slots:=[(0,0)] }
 |_=>{}
theorem rsp_spec (m:Int):PRet C.P 205 [.agg [],.int .i64 m] (sbA ([],decide (m=0))):=by
 refine pret_of ok mixed (A:=A205) 1 Tryz.func205 rfl ?_
 (repeat' (first|exact rfl|((conv=>whnf);first|exact rfl|refine ⟨by kernel_rfl,?_⟩|exact ⟨rfl,rfl⟩|refine go0 ?_|(intro ep)|(refine ifB ?_ ?_<;>intro hb<;>(try simp only [qs] at hb)<;>(try simp (disch:=omega) only [wrapI] at hb)<;>(try (exfalso;omega)))|fail)))
 all_goals (simp [sbA, *];done)
def A199:Ann:=fun r=>match r with
 |0=>{ slots:=[(0,0)] }
 |_=>{}
theorem gsp_spec (m:Int):PRet C.P 199 [.agg [],.int .i64 m] (sbA ([],decide (m=0))):=by
 refine pret_of ok mixed (A:=A199) 1 Tryz.func199 rfl ?_
 (repeat' (first|exact rfl|((conv=>whnf);first|exact rfl|refine ⟨by kernel_rfl,?_⟩|exact ⟨rfl,rfl⟩|refine go0 ?_|(intro ep)|(refine ifB ?_ ?_<;>intro hb<;>(try simp only [qs] at hb)<;>(try simp (disch:=omega) only [wrapI] at hb)<;>(try (exfalso;omega)))|fail)))
 all_goals (simp [sbA, *];done)
def A201:Ann:=fun r=>match r with
 |0=>{ slots:=[(0,0)] }
 |_=>{}
theorem hsp_spec (n l:Int):PRet C.P 201 [.agg [],.int .i64 n,.int .i64 l] (sbA ([],decide (n=0))):=by
 refine pret_of ok mixed (A:=A201) 1 Tryz.func201 rfl ?_
 (repeat' (first|exact rfl|((conv=>whnf);first|exact rfl|refine ⟨by kernel_rfl,?_⟩|exact ⟨rfl,rfl⟩|refine go0 ?_|(intro ep)|(refine ifB ?_ ?_<;>intro hb<;>(try simp only [qs] at hb)<;>(try simp (disch:=omega) only [wrapI] at hb)<;>(try (exfalso;omega)))|fail)))
 all_goals (simp [sbA, *];done)
def A191:Ann:=fun r=>match r with
 |0=>{ slots:=[(0,0)] }
 |_=>{}
def holdSt (n l:Int):List UInt8×Bool:=if n=0 then ([],true) else if n=l then ([42],true) else ([],false)
theorem hst_spec (n l:Int):PRet C.P 191 [.agg [],.int .i64 n,.int .i64 l] (sbA (holdSt n l)):=by
 refine pret_of ok mixed (A:=A191) 1 Tryz.func191 rfl ?_
 (repeat' (first|exact rfl|((conv=>whnf);first|exact rfl|refine ⟨by kernel_rfl,?_⟩|exact ⟨rfl,rfl⟩|refine go0 ?_|(intro ep)|(refine ifB ?_ ?_<;>intro hb<;>(try simp only [qs] at hb)<;>(try simp (disch:=omega) only [wrapI] at hb)<;>(try (exfalso;omega)))|fail)))
 all_goals (unfold holdSt;((repeat' split)<;>first|rfl|omega|(exfalso;omega)|(simp_all;done)|(simp_all;omega)))
def A178:Ann:=fun r=>match r with
 |0=>{ slots:=[(0,0)] }
 |_=>{}
def holdFr (n:Int):List UInt8×Bool:=if n=0 then ([],true) else (95::itoa3 n,true)
theorem itoa3_len (n:Int):(itoa3 n).length≤4:=by
 unfold itoa3 dgs
 repeat' split
 all_goals simp
theorem hfr_spec (n l:Int) (h0: -1000<n) (h1:n<1000):PRet C.P 178 [.agg [],.int .i64 n,.int .i64 l] (sbA (holdFr n)):=by
 refine pret_of ok mixed (A:=A178) 1 Tryz.func178 rfl ?_;have hl:=itoa3_len n
 (repeat' (first|exact rfl|((conv=>whnf);first|exact rfl|exact ⟨rfl,rfl⟩|refine go1 ?_|(intro ep)|refine ⟨_,itoa_spec _ (by omega) (by omega),?_⟩|(refine ⟨by show _+(itoa3 _).length≤_;unfold strMax;simp only [List.length_cons,List.length_nil];omega,?_⟩)|(refine ifB ?_ ?_<;>intro hb<;>(try simp only [qs] at hb)<;>(try simp (disch:=omega) only [wrapI] at hb)<;>(try (exfalso;omega)))|fail)))
 all_goals (unfold holdFr;((repeat' split)<;>first|rfl|omega|(exfalso;omega)|(simp_all;done)|(simp_all;omega)))
def A179:Ann:=fun r=>match r with
 |0=>{ slots:=[(0,0)] }
 |_=>{}
theorem linFr_spec (c s:Int):PRet C.P 179 [.agg [],.int .i64 c,.int .i64 s] (.int .i64 c):=by
 refine pret_of ok mixed (A:=A179) 1 Tryz.func179 rfl ?_
 (repeat' (first|exact rfl|((conv=>whnf);first|exact rfl|refine ⟨by kernel_rfl,?_⟩|exact ⟨rfl,rfl⟩|refine go0 ?_|(intro ep)|(refine ifB ?_ ?_<;>intro hb<;>(try simp only [qs] at hb)<;>(try simp (disch:=omega) only [wrapI] at hb)<;>(try (exfalso;omega)))|fail)))
def A202:Ann:=fun r=>match r with
 |0=>{ slots:=[(0,0)] }
 |_=>{}
theorem linSp_spec (c s:Int):PRet C.P 202 [.agg [],.int .i64 c,.int .i64 s] (.int .i64 c):=by
 refine pret_of ok mixed (A:=A202) 1 Tryz.func202 rfl ?_
 (repeat' (first|exact rfl|((conv=>whnf);first|exact rfl|refine ⟨by kernel_rfl,?_⟩|exact ⟨rfl,rfl⟩|refine go0 ?_|(intro ep)|(refine ifB ?_ ?_<;>intro hb<;>(try simp only [qs] at hb)<;>(try simp (disch:=omega) only [wrapI] at hb)<;>(try (exfalso;omega)))|fail)))
def A209:Ann:=fun r=>match r with
 |0=>{ slots:=[(0,0)] }
 |_=>{}
theorem linGe_spec (c s:Int):PRet C.P 209 [.agg [],.int .i64 c,.int .i64 s] (.int .i64 0):=by
 refine pret_of ok mixed (A:=A209) 1 Tryz.func209 rfl ?_
 (repeat' (first|exact rfl|((conv=>whnf);first|exact rfl|refine ⟨by kernel_rfl,?_⟩|exact ⟨rfl,rfl⟩|refine go0 ?_|(intro ep)|(refine ifB ?_ ?_<;>intro hb<;>(try simp only [qs] at hb)<;>(try simp (disch:=omega) only [wrapI] at hb)<;>(try (exfalso;omega)))|fail)))
def A194:Ann:=fun r=>match r with
 |0=>{ slots:=[(0,0)] }
 |_=>{}
theorem linIt_spec (c s:Int) (h0:0≤c) (h1:c≤1000) (h2:0≤s) (h3:s≤1000):PRet C.P 194 [.agg [],.int .i64 c,.int .i64 s] (.int .i64 (s+1-c)):=by
 refine pret_of ok mixed (A:=A194) 1 Tryz.func194 rfl ?_
 (repeat' (first|exact rfl|((conv=>whnf);first|exact rfl|exact ⟨rfl,rfl⟩|refine go1 ?_|(intro ep)|(refine ifB ?_ ?_<;>intro hb<;>(try simp only [qs] at hb)<;>(try simp (disch:=omega) only [wrapI] at hb)<;>(try (exfalso;omega)))|fail)))
 all_goals (simp (disch:=omega) only [wrapI];try rfl)
def A181:Ann:=fun r=>match r with
 |0=>{ slots:=[(0,0)] }
 |_=>{}
theorem obFr_spec:PRet C.P 181 [.agg []] (.bool true):=by
 refine pret_of ok mixed (A:=A181) 1 Tryz.func181 rfl ?_
 (repeat' (first|exact rfl|((conv=>whnf);first|exact rfl|refine ⟨by kernel_rfl,?_⟩|exact ⟨rfl,rfl⟩|refine go0 ?_|(intro ep)|(refine ifB ?_ ?_<;>intro hb<;>(try simp only [qs] at hb)<;>(try simp (disch:=omega) only [wrapI] at hb)<;>(try (exfalso;omega)))|fail)))
def A196:Ann:=fun r=>match r with
 |0=>{ slots:=[(0,0)] }
 |_=>{}
theorem obIt_spec:PRet C.P 196 [.agg []] (.bool false):=by
 refine pret_of ok mixed (A:=A196) 1 Tryz.func196 rfl ?_
 (repeat' (first|exact rfl|((conv=>whnf);first|exact rfl|refine ⟨by kernel_rfl,?_⟩|exact ⟨rfl,rfl⟩|refine go0 ?_|(intro ep)|(refine ifB ?_ ?_<;>intro hb<;>(try simp only [qs] at hb)<;>(try simp (disch:=omega) only [wrapI] at hb)<;>(try (exfalso;omega)))|fail)))
def A204:Ann:=fun r=>match r with
 |0=>{ slots:=[(0,0)] }
 |_=>{}
theorem obSp_spec:PRet C.P 204 [.agg []] (.bool true):=by
 refine pret_of ok mixed (A:=A204) 1 Tryz.func204 rfl ?_
 (repeat' (first|exact rfl|((conv=>whnf);first|exact rfl|refine ⟨by kernel_rfl,?_⟩|exact ⟨rfl,rfl⟩|refine go0 ?_|(intro ep)|(refine ifB ?_ ?_<;>intro hb<;>(try simp only [qs] at hb)<;>(try simp (disch:=omega) only [wrapI] at hb)<;>(try (exfalso;omega)))|fail)))
def A211:Ann:=fun r=>match r with
 |0=>{ slots:=[(0,0)] }
 |_=>{}
theorem obGe_spec:PRet C.P 211 [.agg []] (.bool true):=by
 refine pret_of ok mixed (A:=A211) 1 Tryz.func211 rfl ?_
 (repeat' (first|exact rfl|((conv=>whnf);first|exact rfl|refine ⟨by kernel_rfl,?_⟩|exact ⟨rfl,rfl⟩|refine go0 ?_|(intro ep)|(refine ifB ?_ ?_<;>intro hb<;>(try simp only [qs] at hb)<;>(try simp (disch:=omega) only [wrapI] at hb)<;>(try (exfalso;omega)))|fail)))
def A180:Ann:=fun r=>match r with
 |0=>{ slots:=[(0,0)] }
 |_=>{}
theorem nmFr_spec:PRet C.P 180 [.agg []] (.str [102,114,101,110,99,104]):=by
 refine pret_of ok mixed (A:=A180) 1 Tryz.func180 rfl ?_
 (repeat' (first|exact rfl|((conv=>whnf);first|exact rfl|refine ⟨by kernel_rfl,?_⟩|exact ⟨rfl,rfl⟩|refine go0 ?_|(intro ep)|(refine ifB ?_ ?_<;>intro hb<;>(try simp only [qs] at hb)<;>(try simp (disch:=omega) only [wrapI] at hb)<;>(try (exfalso;omega)))|fail)))
def A195:Ann:=fun r=>match r with
 |0=>{ slots:=[(0,0)] }
 |_=>{}
theorem nmIt_spec:PRet C.P 195 [.agg []] (.str [105,116,97,108,105,97,110]):=by
 refine pret_of ok mixed (A:=A195) 1 Tryz.func195 rfl ?_
 (repeat' (first|exact rfl|((conv=>whnf);first|exact rfl|refine ⟨by kernel_rfl,?_⟩|exact ⟨rfl,rfl⟩|refine go0 ?_|(intro ep)|(refine ifB ?_ ?_<;>intro hb<;>(try simp only [qs] at hb)<;>(try simp (disch:=omega) only [wrapI] at hb)<;>(try (exfalso;omega)))|fail)))
def A203:Ann:=fun r=>match r with
 |0=>{ slots:=[(0,0)] }
 |_=>{}
theorem nmSp_spec:PRet C.P 203 [.agg []] (.str [115,112,97,110,105,115,104]):=by
 refine pret_of ok mixed (A:=A203) 1 Tryz.func203 rfl ?_
 (repeat' (first|exact rfl|((conv=>whnf);first|exact rfl|refine ⟨by kernel_rfl,?_⟩|exact ⟨rfl,rfl⟩|refine go0 ?_|(intro ep)|(refine ifB ?_ ?_<;>intro hb<;>(try simp only [qs] at hb)<;>(try simp (disch:=omega) only [wrapI] at hb)<;>(try (exfalso;omega)))|fail)))
def A210:Ann:=fun r=>match r with
 |0=>{ slots:=[(0,0)] }
 |_=>{}
theorem nmGe_spec:PRet C.P 210 [.agg []] (.str [103,101,114,109,97,110]):=by
 refine pret_of ok mixed (A:=A210) 1 Tryz.func210 rfl ?_
 (repeat' (first|exact rfl|((conv=>whnf);first|exact rfl|refine ⟨by kernel_rfl,?_⟩|exact ⟨rfl,rfl⟩|refine go0 ?_|(intro ep)|(refine ifB ?_ ?_<;>intro hb<;>(try simp only [qs] at hb)<;>(try simp (disch:=omega) only [wrapI] at hb)<;>(try (exfalso;omega)))|fail)))

def letFr:List UInt8:=[97,98,99,100,101,102,103,104,105,107,108,109,110,111,112,113,114,115,116]
def symFr (c f:Int):List UInt8×Bool:=if 11≤c then (itoa3 (c-7),f==0) else (repB [47] (max (c-7) 0).toNat++((letFr.drop f.toNat).take 1),true)
theorem repB_len (l:List UInt8):∀n,(repB l n).length=n * l.length
 |0=>by simp [repB]
 |n+1=>by rw [repB,List.length_append,repB_len l n,Nat.succ_mul,Nat.add_comm]
def A183:Ann:=fun r=>match r with
 |0=>{ slots:=[(0,0),(1,1)] }
 |2=>{ canon:=some [0,1,2,4,5,6,3,7,8] }
 |3=>{ canon:=some [0,1,2,3,5,6,7,8,9,10,4,11,12,13] }
 |_=>{}
theorem symFr_spec (c f:Int) (h0:1≤c) (h1:c≤14) (h2:0≤f) (h3:f≤18):PRet C.P 183 [.agg [],.agg [.int .i64 c,.int .i64 f]] (sbA (symFr c f)):=by
 refine pret_of ok mixed (A:=A183) 2 Tryz.func183 rfl ?_;by_cases hc:11≤c
 ·(repeat' (first|exact rfl|((conv=>whnf);first|exact rfl|exact ⟨rfl,rfl⟩|refine go1 ?_|(intro ep)|(refine ⟨_,itoa_spec _ (by simp (disch:=omega) only [wrapI];omega) (by simp (disch:=omega) only [wrapI];omega),?_⟩)|(refine ifB ?_ ?_<;>intro hb<;>(try simp only [qs] at hb)<;>(try simp (disch:=omega) only [wrapI] at hb)<;>(try (exfalso;omega)))|fail)))
  all_goals (unfold symFr;rw [if_pos hc];simp (disch:=omega) only [wrapI];try rfl)
 ·obtain ⟨n,hn⟩:∃n:Nat,n=(max (c-7) 0).toNat:=⟨_,rfl⟩;have hr:=repeat_spec [47] n (by simp;omega) (by omega);have hl:(repB [47] n).length=n:=by rw [repB_len];simp
  have hT:(if if true=true then IntKind.i64.wrap (c-7)<0 else 0<IntKind.i64.wrap (c-7) then (0:Int) else IntKind.i64.wrap (c-7))=(n:Int):=by simp (disch:=omega) only [wrapI];simp only [if_true];split<;>omega
  have e:symFr c f=(repB [47] n++((letFr.drop f.toNat).take 1),true):=by unfold symFr;rw [if_neg hc,hn]
  rw [e]
  (repeat' (first|exact rfl|((conv=>whnf);first|exact rfl|exact ⟨rfl,rfl⟩|refine go1 ?_|(intro ep)|(rw [hT];refine ⟨_,hr,?_⟩)|(refine ⟨(by show _+_≤strMax;simp only [List.length_append,List.length_take,List.length_drop,List.length_cons,List.length_nil,hl,strMax];omega),?_⟩)|(refine ifB ?_ ?_<;>intro hb<;>(try simp only [qs] at hb)<;>(try simp (disch:=omega) only [wrapI] at hb)<;>(try (exfalso;omega)))|fail)))
  all_goals (simp (disch:=omega) only [wrapI];have e1:(f+1).toNat-f.toNat=1:=by omega)
  all_goals (rw [e1];rfl)
def bigGe:List UInt8:=[65,66,67,68,69,70,71,72,73,75]
def smlGe:List UInt8:=[97,98,99,100,101,102,103,104,105,107,108,109,110,111,112,113,114,115,116,118,120,121,122,38,57]
def atGe (c f:Int):Int:=(f-1).tmod 5 * 5+5-c
def symGe (c f:Int):List UInt8×Bool:=if 6<c∨10<f then ([],false) else if c=6∧f=0 then ([43],true) else if c=6 then ((bigGe.drop (f-1).toNat).take 1,true) else if f=0 then (itoa3 (6-c),true)
 else (repB ((smlGe.drop (atGe c f).toNat).take 1) ((f+4).tdiv 5).toNat,true)
def A213:Ann:=fun r=>match r with
 |0=>{ slots:=[(0,0),(1,1)] }
 |_=>{}
theorem symGe_spec (c f:Int) (h0:1≤c) (h1:c≤14) (h2:0≤f) (h3:f≤18):PRet C.P 213 [.agg [],.agg [.int .i64 c,.int .i64 f]] (sbA (symGe c f)):=by
 refine pret_of ok mixed (A:=A213) 2 Tryz.func213 rfl ?_;by_cases hn:c≤5∧1≤f∧f≤10
 ·obtain ⟨a,ha⟩:∃a:Nat,(a:Int)=atGe c f:=⟨(atGe c f).toNat,by unfold atGe;have:=Int.tmod_nonneg (a:=f-1) 5 (by omega);have:=Int.tmod_lt_of_pos (f-1) (b:=5) (by omega);omega⟩;have ha2:a≤24:=by unfold atGe at ha;have:=Int.tmod_nonneg (a:=f-1) 5 (by omega);have:=Int.tmod_lt_of_pos (f-1) (b:=5) (by omega);omega
  obtain ⟨q,hq⟩:∃q:Nat,(q:Int)=(f+4).tdiv 5:=⟨((f+4).tdiv 5).toNat,by have:=Int.tdiv_eq_ediv_of_nonneg (a:=f+4) (b:=5) (by omega);omega⟩;have hq2:q≤2:=by have:=Int.tdiv_eq_ediv_of_nonneg (a:=f+4) (b:=5) (by omega);omega
  have hr:=repeat_spec ((smlGe.drop a).take 1) q (by simp only [List.length_take];have:min 1 (smlGe.drop a).length≤1:=Nat.min_le_left _ _;exact Nat.le_trans (Nat.mul_le_mul this hq2) (by decide)) (by omega);have e:symGe c f=(repB ((smlGe.drop a).take 1) q,true):=by
   unfold symGe;rw [if_neg (by omega),if_neg (by omega),if_neg (by omega),if_neg (by omega),←ha,←hq];simp
  rw [e];have w1:IntKind.i64.wrap (f-1)=f-1:=wrapI (by omega) (by omega);have hm:=Int.tmod_nonneg (a:=f-1) 5 (by omega);have hm2:=Int.tmod_lt_of_pos (f-1) (b:=5) (by omega);have hT:IntKind.i64.wrap (IntKind.i64.wrap (IntKind.i64.wrap ((IntKind.i64.wrap (f-1)).tmod 5 * 5)+5)-c)=(a:Int):=by
   rw [w1,wrapI (x:=(f-1).tmod 5 * 5) (by omega) (by omega),wrapI (x:=(f-1).tmod 5 * 5+5) (by omega) (by omega),wrapI (by omega) (by omega),ha];rfl
  have hT2:IntKind.i64.wrap ((IntKind.i64.wrap (f+4)).tdiv 5)=(q:Int):=by
   rw [wrapI (x:=f+4) (by omega) (by omega),←hq,wrapI (by omega) (by omega)]
  have hT3:(IntKind.i64.wrap ((a:Int)+1)).toNat-((a:Int)).toNat=1:=by rw [wrapI (by omega) (by omega)];omega
  (repeat' (first|exact rfl|((conv=>whnf);first|(rw [hT2,hT3];refine ⟨_,hr,?_⟩)|exact rfl|exact ⟨rfl,rfl⟩|refine go1 ?_|(intro ep)|(rw [hT])|(refine ifB ?_ ?_<;>intro hb<;>(try simp only [qs] at hb)<;>(try simp (disch:=omega) only [wrapI] at hb)<;>(try (exfalso;omega)))|fail)))
 ·have hn2:6≤c∨f=0∨10<f:=by omega
  (repeat' (first|exact rfl|((conv=>whnf);first|exact rfl|exact ⟨rfl,rfl⟩|refine go1 ?_|(intro ep)|(refine ⟨_,itoa_spec _ (by simp (disch:=omega) only [wrapI];omega) (by simp (disch:=omega) only [wrapI];omega),?_⟩)|(refine ifB ?_ ?_<;>intro hb<;>(try simp only [qs] at hb)<;>(try simp (disch:=omega) only [wrapI] at hb)<;>(try (exfalso;omega)))|fail)))
  all_goals (unfold symGe;first|(rw [if_pos (by omega)];rfl)|(rw [if_neg (by omega),if_pos (by omega)];rfl)|(rw [if_neg (by omega),if_neg (by omega),if_pos (by omega),wrapI (by omega) (by omega),(by omega:f.toNat-(f-1).toNat=1)];rfl)|
   (rw [if_neg (by omega),if_neg (by omega),if_neg (by omega),if_pos (by omega),wrapI (by omega) (by omega)];rfl))
end Go.Ab.V

namespace Go.Ab.V
open Go.Proofs Go.RowKit
theorem part0 {P:Program} {W:World} {b T n:Nat} (h:W.shape? b=some (T,n)) (hc:P.cellsOf T=0):(partAt ⟨b,0,none⟩ 0 0).run P W= .ok ⟨b,0,none⟩ W:=by
 simp [partAt,byteOf,noView,viewAt,h,hc]
theorem fig_calls {σ:Sg} {W:World} (s:Sim σ Heap.nil W) (f:Int):Calls Tryz.prog 190 #[.agg #[],.int .i64 f] W fun e w'=>e= .returned (.tuple #[.string ⟨(figS f).1.toArray⟩,.bool (figS f).2])∧Below W.heap.size W w':=by
 have hv:VRels σ [.agg [],.int .i64 f] (#[Value.agg #[],Value.int .i64 f]:Array Value).toList:=VRels.cons (.agg rfl (fun v hv=>by simp at hv) (fun i c v x=>by simp at x)) (VRels.cons .int .nil);refine ((fig_spec f).out.use s hv).mono ?_;rintro e w' ⟨v,rfl,σ',r,rfl,m,x⟩;have hb:Below W.heap.size W w':=⟨m.os,m.tape,m.output,m.size,fun k hk=>m.block k hk fun ⟨i,o,ho,_⟩=>Heap.nil_some ho⟩;refine ⟨?_,hb⟩;cases x with
 | @tup _ _ vs l hh=>
  match vs,l,hh with
  | ⟨[a,b]⟩,_,hh=>
   have e1:=hh 0 _ a rfl rfl;have e2:=hh 1 _ b rfl rfl;cases e1;cases e2;rfl
theorem sb_rel {σ:Sg} {p:List UInt8×Bool}:VRel σ (sbA p) (.tuple #[.string ⟨p.1.toArray⟩,.bool p.2]):=.tup rfl fun i c v x y=>by
 match i,x,y with
 |0,x,y=>cases x;cases y;exact .str
 |1,x,y=>cases x;cases y;exact .bool
theorem two_below (w:World) (a b:Obj):Below w.heap.size w ((w.alloc a).alloc b):=by
 refine ⟨rfl,rfl,rfl,?_,fun k hk=>?_⟩
 ·show _≤((w.heap.push a).push b).size;simp;omega
 ·show ((w.heap.push a).push b)[k]? =_;rw [Array.getElem?_push_lt (by simp;omega),Array.getElem_push_lt hk];simp [hk]
def symSp (c f:Int):List UInt8×Bool:=if 6<c then ([],false) else figS f
theorem symSp_spec (c f:Int):PRet C.P 206 [.agg [],.agg [.int .i64 c,.int .i64 f]] (sbA (symSp c f)):=by
 refine pret_lib rfl fun σ w vs s hv=>?_;obtain ⟨v,u,rfl,h1,h2⟩:=vrels2 hv;obtain rfl:v= .agg #[]:=by
  cases h1 with
  | @agg _ _ vs l o hh=>
   obtain rfl:=Array.eq_empty_of_size_eq_zero (l.symm.trans rfl);rfl
 obtain rfl:u= .agg #[.int .i64 c,.int .i64 f]:=by
  cases h2 with
  | @agg _ _ vs l o hh=>
   match vs,l,hh with
   | ⟨[a,b]⟩,_,hh=>
    have e1:=hh 0 _ a rfl rfl;have e2:=hh 1 _ b rfl rfl;cases e1;cases e2;rfl
 show Calls Tryz.prog 206 _ _ _
 go_enter Tryz.func206,Tryz.ntmps206
 have hb:=two_below w (Obj.cells #[] 134) (Obj.cells #[Value.int IntKind.i64 c,Value.int IntKind.i64 f] 105);have hs:((w.alloc (Obj.cells #[] 134)).alloc (Obj.cells #[Value.int IntKind.i64 c,Value.int IntKind.i64 f] 105)).shape? w.heap.size=some (134,0):=by
  have:((w.heap.push (Obj.cells #[] 134)).push (Obj.cells #[Value.int IntKind.i64 c,Value.int IntKind.i64 f] 105))[w.heap.size]? =some (.cells #[] 134):=by
   rw [Array.getElem?_push_lt (by simp),Array.getElem_push];simp
  unfold World.shape? World.alloc;simp only;rw [this];rfl
 go_wp2
 ·rename_i hc
  go_ret2
  have e:symSp c f=([],false):=by unfold symSp;rw [if_pos (by omega)]
  rw [e];exact ⟨_,rfl,hb,sb_rel (p:=([],false))⟩
 ·rename_i hc _ _ _ _;rw [part0 hs (by kernel_rfl)];simp only [Result.andThen];rw [Oper.upon_value]
  go_wp2_with (go_at_call 190;refine (fig_calls (s.below hb).sim f).mono ?_;rintro e w' ⟨rfl,hb2⟩)
  go_ret2
  have e:symSp c f=figS f:=by unfold symSp;rw [if_neg (by omega)]
  rw [e];exact ⟨_,rfl,hb.trans ⟨hb2.os,hb2.tape,hb2.output,hb2.size,fun k hk=>hb2.block k (Nat.lt_of_lt_of_le hk hb.size)⟩,sb_rel⟩
def symIt (c f:Int):List UInt8×Bool:=if c≤6 then figS f else if c=10 then ([120],f==0) else (itoa3 c,f==0)
theorem symIt_low (c f:Int) (hc0:c≤6):PRet C.P 198 [.agg [],.agg [.int .i64 c,.int .i64 f]] (sbA (symIt c f)):=by
 refine pret_lib rfl fun σ w vs s hv=>?_;obtain ⟨v,u,rfl,h1,h2⟩:=vrels2 hv;obtain rfl:v= .agg #[]:=by
  cases h1 with
  | @agg _ _ vs l o hh=>
   obtain rfl:=Array.eq_empty_of_size_eq_zero (l.symm.trans rfl);rfl
 obtain rfl:u= .agg #[.int .i64 c,.int .i64 f]:=by
  cases h2 with
  | @agg _ _ vs l o hh=>
   match vs,l,hh with
   | ⟨[a,b]⟩,_,hh=>
    have e1:=hh 0 _ a rfl rfl;have e2:=hh 1 _ b rfl rfl;cases e1;cases e2;rfl
 show Calls Tryz.prog 198 _ _ _
 go_enter Tryz.func198,Tryz.ntmps198
 have hb:=two_below w (Obj.cells #[] 132) (Obj.cells #[Value.int IntKind.i64 c,Value.int IntKind.i64 f] 105);have hs:((w.alloc (Obj.cells #[] 132)).alloc (Obj.cells #[Value.int IntKind.i64 c,Value.int IntKind.i64 f] 105)).shape? w.heap.size=some (132,0):=by
  have:((w.heap.push (Obj.cells #[] 132)).push (Obj.cells #[Value.int IntKind.i64 c,Value.int IntKind.i64 f] 105))[w.heap.size]? =some (.cells #[] 132):=by
   rw [Array.getElem?_push_lt (by simp),Array.getElem_push];simp
  unfold World.shape? World.alloc;simp only;rw [this];rfl
 go_wp2
 ·rename_i hc _ _ _ _;rw [part0 hs (by kernel_rfl)];simp only [Result.andThen];rw [Oper.upon_value]
  go_wp2_with (go_at_call 190;refine (fig_calls (s.below hb).sim f).mono ?_;rintro e w' ⟨rfl,hb2⟩)
  go_ret2
  have e:symIt c f=figS f:=by unfold symIt;rw [if_pos (by omega)]
  rw [e];exact ⟨_,rfl,hb.trans ⟨hb2.os,hb2.tape,hb2.output,hb2.size,fun k hk=>hb2.block k (Nat.lt_of_lt_of_le hk hb.size)⟩,sb_rel⟩
def A198:Ann:=fun r=>match r with
 |0=>{ slots:=[(0,0),(1,1)] }
 |5=>{ canon:=some [0,1,3,4,5,2,6,7] }
 |_=>{}
theorem symIt_spec (c f:Int) (h0:1≤c) (h1:c≤14) (h2:0≤f) (h3:f≤18):PRet C.P 198 [.agg [],.agg [.int .i64 c,.int .i64 f]] (sbA (symIt c f)):=by
 by_cases hc:c≤6
 ·exact symIt_low c f hc
 refine pret_of ok mixed (A:=A198) 2 Tryz.func198 rfl ?_
 (repeat' (first|exact rfl|((conv=>whnf);first|exact rfl|exact ⟨rfl,rfl⟩|refine go1 ?_|(intro ep)|refine ⟨_,itoa_spec c (by omega) (by omega),?_⟩|(refine ifB ?_ ?_<;>intro hb<;>(try simp only [qs] at hb)<;>(try simp (disch:=omega) only [wrapI] at hb)<;>(try (exfalso;omega)))|fail)))
 all_goals (unfold symIt;rw [if_neg hc];first|(rw [if_pos (by omega)];rfl)|(rw [if_neg (by omega)];rfl))
def symF:Sy→Nat
 | .fr=>183| .it=>198| .sp=>206| .ge=>213
def symS:Sy→Int→Int→List UInt8×Bool
 | .fr,c,f=>symFr c f
 | .it,c,f=>symIt c f
 | .sp,c,f=>symSp c f
 | .ge,c,f=>symGe c f
theorem sym_spec (s:Sy) (c f:Int) (h0:1≤c) (h1:c≤14) (h2:0≤f) (h3:f≤18):PRet C.P (symF s) [.agg [],.agg [.int .i64 c,.int .i64 f]] (sbA (symS s c f)):=by
 cases s
 ·exact symFr_spec c f h0 h1 h2 h3
 ·exact symIt_spec c f h0 h1 h2 h3
 ·exact symSp_spec c f
 ·exact symGe_spec c f h0 h1 h2 h3
def rgtF:Sy→Nat
 | .fr=>182| .it=>197| .sp=>205| .ge=>212
def rgtS:Sy→Int→List UInt8×Bool
 | .fr,m=>mkd t_rfr m
 | .it,m=>mkd t_rit m
 | .sp,m=>([],decide (m=0))
 | .ge,m=>mkd t_rge m
theorem rgt_spec (s:Sy) (m:Int):PRet C.P (rgtF s) [.agg [],.int .i64 m] (sbA (rgtS s m)):=by
 cases s
 ·exact rfr_spec m
 ·exact rit_spec m
 ·exact rsp_spec m
 ·exact rge_spec m
def grcF:Sy→Nat
 | .fr=>176| .it=>192| .sp=>199| .ge=>207
def grcS:Sy→Int→List UInt8×Bool
 | .fr,m=>mkd t_gfr m
 | .it,m=>mkd t_git m
 | .sp,m=>([],decide (m=0))
 | .ge,m=>mkd t_gge m
theorem grc_spec (s:Sy) (m:Int):PRet C.P (grcF s) [.agg [],.int .i64 m] (sbA (grcS s m)):=by
 cases s
 ·exact gfr_spec m
 ·exact git_spec m
 ·exact gsp_spec m
 ·exact gge_spec m
def hldF:Sy→Nat
 | .fr=>178| .it=>191| .sp=>201| .ge=>191
def hldS:Sy→Int→Int→List UInt8×Bool
 | .fr,n,_=>holdFr n
 | .it,n,l=>holdSt n l
 | .sp,n,_=>([],decide (n=0))
 | .ge,n,l=>holdSt n l
theorem hld_spec (s:Sy) (n l:Int) (h0:0≤n) (h1:n≤15):PRet C.P (hldF s) [.agg [],.int .i64 n,.int .i64 l] (sbA (hldS s n l)):=by
 cases s
 ·exact hfr_spec n l (by omega) (by omega)
 ·exact hst_spec n l
 ·exact hsp_spec n l
 ·exact hst_spec n l
def linF:Sy→Nat
 | .fr=>179| .it=>194| .sp=>202| .ge=>209
def linS:Sy→Int→Int→Int
 | .fr,c,_=>c
 | .it,c,s=>s+1-c
 | .sp,c,_=>c
 | .ge,_,_=>0
theorem lin_spec (y:Sy) (c s:Int) (h0:0≤c) (h1:c≤1000) (h2:0≤s) (h3:s≤1000):PRet C.P (linF y) [.agg [],.int .i64 c,.int .i64 s] (.int .i64 (linS y c s)):=by
 cases y
 ·exact linFr_spec c s
 ·exact linIt_spec c s h0 h1 h2 h3
 ·exact linSp_spec c s
 ·exact linGe_spec c s
def hasF:Sy→Nat
 | .fr=>177| .it=>193| .sp=>200| .ge=>208
def hasS:Sy→Int→Bool
 | .fr,_=>true
 | .it,_=>true
 | .sp,m=>m !=8
 | .ge,m=>decide (m=8)
theorem has_spec (s:Sy) (m:Int):PRet C.P (hasF s) [.agg [],.int .i64 m] (.bool (hasS s m)):=by
 cases s
 ·exact hasFr_spec m
 ·exact hasIt_spec m
 ·exact hasSp_spec m
 ·exact hasGe_spec m
def obF:Sy→Nat
 | .fr=>181| .it=>196| .sp=>204| .ge=>211
def obS:Sy→Bool
 | .it=>false
 |_=>true
theorem ob_spec (s:Sy):PRet C.P (obF s) [.agg []] (.bool (obS s)):=by
 cases s
 ·exact obFr_spec
 ·exact obIt_spec
 ·exact obSp_spec
 ·exact obGe_spec
def nmF:Sy→Nat
 | .fr=>180| .it=>195| .sp=>203| .ge=>210
def nmS:Sy→List UInt8
 | .fr=>[102,114,101,110,99,104]
 | .it=>[105,116,97,108,105,97,110]
 | .sp=>[115,112,97,110,105,115,104]
 | .ge=>[103,101,114,109,97,110]
theorem nm_spec (s:Sy):PRet C.P (nmF s) [.agg []] (.str (nmS s)):=by
 cases s
 ·exact nmFr_spec
 ·exact nmIt_spec
 ·exact nmSp_spec
 ·exact nmGe_spec
theorem sym_mo (s : Sy) : MethOk Tryz.prog s.t "theorbo/notation.symbol" (symF s) := by
 cases s
 ·exact ⟨fun w=>by kernel_rfl,⟨_,Tryz.func183,by kernel_rfl,by kernel_rfl⟩⟩
 ·exact ⟨fun w=>by kernel_rfl,⟨_,Tryz.func198,by kernel_rfl,by kernel_rfl⟩⟩
 ·exact ⟨fun w=>by kernel_rfl,⟨_,Tryz.func206,by kernel_rfl,by kernel_rfl⟩⟩
 ·exact ⟨fun w=>by kernel_rfl,⟨_,Tryz.func213,by kernel_rfl,by kernel_rfl⟩⟩
theorem rgt_mo (s : Sy) : MethOk Tryz.prog s.t "theorbo/notation.right" (rgtF s) := by
 cases s
 ·exact ⟨fun w=>by kernel_rfl,⟨_,Tryz.func182,by kernel_rfl,by kernel_rfl⟩⟩
 ·exact ⟨fun w=>by kernel_rfl,⟨_,Tryz.func197,by kernel_rfl,by kernel_rfl⟩⟩
 ·exact ⟨fun w=>by kernel_rfl,⟨_,Tryz.func205,by kernel_rfl,by kernel_rfl⟩⟩
 ·exact ⟨fun w=>by kernel_rfl,⟨_,Tryz.func212,by kernel_rfl,by kernel_rfl⟩⟩
theorem grc_mo (s : Sy) : MethOk Tryz.prog s.t "theorbo/notation.grace" (grcF s) := by
 cases s
 ·exact ⟨fun w=>by kernel_rfl,⟨_,Tryz.func176,by kernel_rfl,by kernel_rfl⟩⟩
 ·exact ⟨fun w=>by kernel_rfl,⟨_,Tryz.func192,by kernel_rfl,by kernel_rfl⟩⟩
 ·exact ⟨fun w=>by kernel_rfl,⟨_,Tryz.func199,by kernel_rfl,by kernel_rfl⟩⟩
 ·exact ⟨fun w=>by kernel_rfl,⟨_,Tryz.func207,by kernel_rfl,by kernel_rfl⟩⟩
theorem hld_mo (s : Sy) : MethOk Tryz.prog s.t "theorbo/notation.hold" (hldF s) := by
 cases s
 ·exact ⟨fun w=>by kernel_rfl,⟨_,Tryz.func178,by kernel_rfl,by kernel_rfl⟩⟩
 ·exact ⟨fun w=>by kernel_rfl,⟨_,Tryz.func191,by kernel_rfl,by kernel_rfl⟩⟩
 ·exact ⟨fun w=>by kernel_rfl,⟨_,Tryz.func201,by kernel_rfl,by kernel_rfl⟩⟩
 ·exact ⟨fun w=>by kernel_rfl,⟨_,Tryz.func191,by kernel_rfl,by kernel_rfl⟩⟩
theorem lin_mo (s : Sy) : MethOk Tryz.prog s.t "theorbo/notation.line" (linF s) := by
 cases s
 ·exact ⟨fun w=>by kernel_rfl,⟨_,Tryz.func179,by kernel_rfl,by kernel_rfl⟩⟩
 ·exact ⟨fun w=>by kernel_rfl,⟨_,Tryz.func194,by kernel_rfl,by kernel_rfl⟩⟩
 ·exact ⟨fun w=>by kernel_rfl,⟨_,Tryz.func202,by kernel_rfl,by kernel_rfl⟩⟩
 ·exact ⟨fun w=>by kernel_rfl,⟨_,Tryz.func209,by kernel_rfl,by kernel_rfl⟩⟩
theorem has_mo (s : Sy) : MethOk Tryz.prog s.t "theorbo/notation.has" (hasF s) := by
 cases s
 ·exact ⟨fun w=>by kernel_rfl,⟨_,Tryz.func177,by kernel_rfl,by kernel_rfl⟩⟩
 ·exact ⟨fun w=>by kernel_rfl,⟨_,Tryz.func193,by kernel_rfl,by kernel_rfl⟩⟩
 ·exact ⟨fun w=>by kernel_rfl,⟨_,Tryz.func200,by kernel_rfl,by kernel_rfl⟩⟩
 ·exact ⟨fun w=>by kernel_rfl,⟨_,Tryz.func208,by kernel_rfl,by kernel_rfl⟩⟩
theorem ob_mo (s : Sy) : MethOk Tryz.prog s.t "theorbo/notation.outsideBehind" (obF s) := by
 cases s
 ·exact ⟨fun w=>by kernel_rfl,⟨_,Tryz.func181,by kernel_rfl,by kernel_rfl⟩⟩
 ·exact ⟨fun w=>by kernel_rfl,⟨_,Tryz.func196,by kernel_rfl,by kernel_rfl⟩⟩
 ·exact ⟨fun w=>by kernel_rfl,⟨_,Tryz.func204,by kernel_rfl,by kernel_rfl⟩⟩
 ·exact ⟨fun w=>by kernel_rfl,⟨_,Tryz.func211,by kernel_rfl,by kernel_rfl⟩⟩
theorem nm_mo (s : Sy) : MethOk Tryz.prog s.t "theorbo/notation.name" (nmF s) := by
 cases s
 ·exact ⟨fun w=>by kernel_rfl,⟨_,Tryz.func180,by kernel_rfl,by kernel_rfl⟩⟩
 ·exact ⟨fun w=>by kernel_rfl,⟨_,Tryz.func195,by kernel_rfl,by kernel_rfl⟩⟩
 ·exact ⟨fun w=>by kernel_rfl,⟨_,Tryz.func203,by kernel_rfl,by kernel_rfl⟩⟩
 ·exact ⟨fun w=>by kernel_rfl,⟨_,Tryz.func210,by kernel_rfl,by kernel_rfl⟩⟩
end Go.Ab.V

namespace Go.Ab.V
open Go.Proofs
def tmL:List UInt8:=[66,83,77,67,81,88,68]
def ltr (v:Int):List UInt8:=(tmL.drop (v-1).toNat).take 1
def twS (y:Sy) (v:Int) (d t:Bool):List UInt8×Bool:=if v=0 then ([45],hasS y 6) else if t=true then (ltr v++[51],hasS y 5) else if d=true then (ltr v++[46],true) else (ltr v,true)
def A57:Ann:=fun r=>match r with
 |0=>{ slots:=[(0,0)] }
 |_=>{}
theorem tw_spec (y:Sy) (v:Int) (d t:Bool) (h0:0≤v) (h1:v≤7):PRet C.P 57 [y.a,sg v d t] (sbA (twS y v d t)):=by
 have e2:1≤v→v.toNat-(v-1).toNat=1:=fun _=>by omega
 have hw:IntKind.i64.wrap (v-1)=v-1:=wrapI (by omega) (by omega);refine pret_of ok mixed (A:=A57) 1 Tryz.func57 rfl ?_;cases t<;>cases d
 all_goals (repeat' (first|exact rfl|((conv=>whnf);first|(refine ⟨_,_,has_mo y,has_spec y _,?_⟩)|exact rfl|exact ⟨rfl,rfl⟩|refine go1 ?_|(intro ep)|(refine ⟨(by show _+_≤strMax;simp only [List.length_append,List.length_take,List.length_drop,List.length_cons,List.length_nil,strMax];omega),?_⟩)|(refine ifB ?_ ?_<;>intro hb<;>(try simp only [qs] at hb)<;>(try simp (disch:=omega) only [wrapI] at hb)<;>(try (exfalso;omega)))|fail)))
 all_goals (unfold twS;first|(rw [if_pos (by omega)];rfl)|(rw [if_neg (by omega),hw,e2 (by omega)];rfl))
def nsA (s:List UInt8) (e:Int):AV:=.tup [.str s,.int .i64 e]
def sysName (n:Int):List UInt8×Int:=match syOf n with
 |some y=>(nmS y,0)
 |none=>([],30)
theorem sysName_spec (n:Int):PRet C.P 16 [.int .u8 n] (nsA (sysName n).1 (sysName n).2):=by
 have h:=of_spec n;unfold sysName;cases hs:syOf n with
 |none=>
  rw [hs] at h;refine pret_of ok mixed (A:=fun _=>{}) 1 Tryz.func16 rfl ?_
  (repeat' (first|exact rfl|((conv=>whnf);first|(refine ⟨_,h,?_⟩)|exact rfl|exact ⟨rfl,rfl⟩|refine go1 ?_|(intro ep)|(refine ifB ?_ ?_<;>intro hb<;>(try simp only [qs] at hb)<;>(try simp (disch:=omega) only [wrapI] at hb)<;>(try (exfalso;omega)))|fail)))
 |some y=>
  rw [hs] at h;refine pret_of ok mixed (A:=fun _=>{}) 1 Tryz.func16 rfl ?_
  (repeat' (first|exact rfl|((conv=>whnf);first|(refine ⟨_,h,?_⟩)|(refine ⟨_,_,nm_mo y,nm_spec y,?_⟩)|exact rfl|exact ⟨rfl,rfl⟩|refine go1 ?_|(intro ep)|(refine ifB ?_ ?_<;>intro hb<;>(try simp only [qs] at hb)<;>(try simp (disch:=omega) only [wrapI] at hb)<;>(try (exfalso;omega)))|fail)))
theorem of1:PRet C.P 24 [.int .u8 1] (ofA (some .fr)):=of_spec 1
theorem of2:PRet C.P 24 [.int .u8 2] (ofA (some .it)):=of_spec 2
theorem of3:PRet C.P 24 [.int .u8 3] (ofA (some .sp)):=of_spec 3
theorem of4:PRet C.P 24 [.int .u8 4] (ofA (some .ge)):=of_spec 4
def parseSys (t:List UInt8):Option Sy:=if nmS .fr=t then some .fr else if nmS .it=t then some .it else if nmS .sp=t then some .sp else if nmS .ge=t then some .ge else none
def psA:Option Sy→AV
 |some y=>.tup [.int .u8 y.n,.int .i64 0]
 |none=>.tup [.int .u8 0,.int .i64 4]
theorem parseSys_spec (t:List UInt8):PRet C.P 23 [.str t] (psA (parseSys t)):=by
 refine pret_of ok mixed (A:=fun _=>{}) 1 Tryz.func23 rfl ?_
 (repeat' (first|exact rfl|((conv=>whnf);first|(refine ⟨_,of1,?_⟩)|(refine ⟨_,of2,?_⟩)|(refine ⟨_,of3,?_⟩)|(refine ⟨_,of4,?_⟩)|(refine ⟨_,_,nm_mo .fr,nm_spec .fr,?_⟩)|(refine ⟨_,_,nm_mo .it,nm_spec .it,?_⟩)|(refine ⟨_,_,nm_mo .sp,nm_spec .sp,?_⟩)|(refine ⟨_,_,nm_mo .ge,nm_spec .ge,?_⟩)|(refine loopU ok mixed (A:=fun _=>{}) 6 ?_)|exact rfl|exact ⟨rfl,rfl⟩|refine go1 ?_|(intro ep)|(refine ifB ?_ ?_<;>intro hb<;>(try simp only [qs] at hb)<;>(try simp (disch:=omega) only [wrapI] at hb)<;>(try (exfalso;omega)))|fail)))
 all_goals (unfold parseSys;simp only [*,if_true,if_false];rfl)
end Go.Ab.V
