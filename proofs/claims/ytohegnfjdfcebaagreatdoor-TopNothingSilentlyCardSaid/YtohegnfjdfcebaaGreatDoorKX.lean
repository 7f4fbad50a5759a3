/-
  What is proved here serves the law's text: each part says its own claim and its conditions. No condition is left open.
-/
import Derived.Test.YtohegnfjdfcebaaGreatDoorChecked
import Derived.KernelRfl
import Derived.Eval
import Derived.Test.YtohegnfjdfcebaaGreatDoorKS
set_option maxHeartbeats 32000000
set_option maxRecDepth 100000
set_option linter.unusedSimpArgs false
set_option linter.unusedVariables false

namespace Go.Ab.V
open Go.Proofs
def tab:List (Option TD):=[none,
 some ⟨.func,1,8,[.nilf],false,false⟩,
 some ⟨.int .i64,1,8,[.int .i64 0],false,false⟩,
 some ⟨.int .i64,1,8,[.int .i64 0],false,false⟩,
 some ⟨.bool,1,1,[.bool false],false,false⟩,
 some ⟨.int .u8,1,1,[.int .u8 0],false,false⟩,
 some ⟨.int .u8,1,1,[.int .u8 0],false,false⟩,
 some ⟨.struct [(0,2),(1,3),(2,4),(3,6)],4,24,[.int .i64 0,.int .i64 0,.bool false,.int .u8 0],true,true⟩,
 some ⟨.struct [(0,2),(1,3),(2,4),(3,6)],4,24,[.int .i64 0,.int .i64 0,.bool false,.int .u8 0],true,false⟩,
 some ⟨.str,1,16,[.str []],false,false⟩,
 some ⟨.str,1,16,[.str []],false,false⟩,
 some ⟨.str,1,16,[.str []],false,false⟩,
 some ⟨.int .u64,1,8,[.int .u64 0],false,false⟩,
 some ⟨.struct [(0,9),(1,12)],2,24,[.str [],.int .u64 0],false,false⟩,
 some ⟨.struct [(0,9),(1,12)],2,24,[.str [],.int .u64 0],false,false⟩,
 some ⟨.ptr,1,8,[.nilp],false,false⟩,
 some ⟨.ptr,1,8,[.nilp],false,false⟩,
 some ⟨.ptr,1,8,[.nilp],false,false⟩,
 some ⟨.struct [(0,17)],1,8,[.nilp],false,false⟩,
 some ⟨.struct [(0,17)],1,8,[.nilp],false,false⟩,
 some ⟨.other,1,16,[.nili],false,false⟩,
 some ⟨.int .i32,1,4,[.int .i32 0],false,false⟩,
 some ⟨.int .u8,1,1,[.int .u8 0],false,false⟩,
 some ⟨.func,1,8,[.nilf],false,false⟩,
 some ⟨.slice 139,1,24,[.nils],false,false⟩,
 some ⟨.slice 3,1,24,[.nils],false,false⟩,
 some ⟨.struct [(0,24),(1,25)],2,48,[.nils,.nils],false,false⟩,
 some ⟨.struct [(0,24),(1,25)],2,48,[.nils,.nils],false,false⟩,
 some ⟨.slice 45,1,24,[.nils],false,false⟩,
 some ⟨.struct [(0,27),(2,28)],3,72,[.nils,.nils,.nils],false,false⟩,
 some ⟨.struct [(0,27),(2,28)],3,72,[.nils,.nils,.nils],false,false⟩,
 some ⟨.int .i64,1,8,[.int .i64 0],false,false⟩,
 none,
 some ⟨.func,1,8,[.nilf],false,false⟩,
 some ⟨.slice 40,1,24,[.nils],false,false⟩,
 none,
 some ⟨.func,1,8,[.nilf],false,false⟩,
 some ⟨.func,1,8,[.nilf],false,false⟩,
 some ⟨.func,1,8,[.nilf],false,false⟩,
 some ⟨.struct [(0,3),(1,3),(2,3)],3,24,[.int .i64 0,.int .i64 0,.int .i64 0],true,true⟩,
 some ⟨.struct [(0,3),(1,3),(2,3)],3,24,[.int .i64 0,.int .i64 0,.int .i64 0],true,true⟩,
 some ⟨.struct [(0,3),(1,4),(2,4)],3,16,[.int .i64 0,.bool false,.bool false],true,true⟩,
 some ⟨.struct [(0,3),(1,4),(2,4)],3,16,[.int .i64 0,.bool false,.bool false],true,true⟩,
 some ⟨.slice 47,1,24,[.nils],false,false⟩,
 some ⟨.struct [(0,4),(1,42),(4,4),(5,43)],6,56,[.bool false,.int .i64 0,.bool false,.bool false,.bool false,.nils],false,false⟩,
 some ⟨.struct [(0,4),(1,42),(4,4),(5,43)],6,56,[.bool false,.int .i64 0,.bool false,.bool false,.bool false,.nils],false,false⟩,
 some ⟨.struct [(0,3),(1,3),(2,3),(3,3),(4,3)],5,40,[.int .i64 0,.int .i64 0,.int .i64 0,.int .i64 0,.int .i64 0],true,true⟩,
 some ⟨.struct [(0,3),(1,3),(2,3),(3,3),(4,3)],5,40,[.int .i64 0,.int .i64 0,.int .i64 0,.int .i64 0,.int .i64 0],true,true⟩,
 some ⟨.func,1,8,[.nilf],false,false⟩,
 some ⟨.struct [(0,3),(1,31)],2,16,[.int .i64 0,.int .i64 0],true,true⟩,
 some ⟨.struct [(0,3),(1,31)],2,16,[.int .i64 0,.int .i64 0],true,true⟩,
 some ⟨.ptr,1,8,[.nilp],false,false⟩,
 some ⟨.slice 9,1,24,[.nils],false,false⟩,
 some ⟨.func,1,8,[.nilf],false,false⟩,
 some ⟨.other,1,16,[.nili],false,false⟩,
 some ⟨.other,1,16,[.nili],false,false⟩,
 some ⟨.slice 81,1,24,[.nils],false,false⟩,
 some ⟨.struct [(0,22),(1,55),(2,30),(5,56),(6,3),(7,52),(8,4)],9,160,[.int .u8 0,.nili,.nils,.nils,.nils,.nils,.int .i64 0,.nils,.bool false],false,false⟩,
 some ⟨.struct [(0,22),(1,55),(2,30),(5,56),(6,3),(7,52),(8,4)],9,160,[.int .u8 0,.nili,.nils,.nils,.nils,.nils,.int .i64 0,.nils,.bool false],false,false⟩,
 some ⟨.func,1,8,[.nilf],false,false⟩,
 some ⟨.func,1,8,[.nilf],false,false⟩,
 some ⟨.func,1,8,[.nilf],false,false⟩,
 none,
 some ⟨.func,1,8,[.nilf],false,false⟩,
 none,
 some ⟨.func,1,8,[.nilf],false,false⟩,
 some ⟨.func,1,8,[.nilf],false,false⟩,
 some ⟨.slice 42,1,24,[.nils],false,false⟩,
 some ⟨.func,1,8,[.nilf],false,false⟩,
 some ⟨.func,1,8,[.nilf],false,false⟩,
 some ⟨.func,1,8,[.nilf],false,false⟩,
 none,
 some ⟨.func,1,8,[.nilf],false,false⟩,
 none,
 some ⟨.func,1,8,[.nilf],false,false⟩,
 none,
 some ⟨.func,1,8,[.nilf],false,false⟩,
 none,
 some ⟨.func,1,8,[.nilf],false,false⟩,
 none,
 some ⟨.func,1,8,[.nilf],false,false⟩,
 some ⟨.slice 85,1,24,[.nils],false,false⟩,
 some ⟨.func,1,8,[.nilf],false,false⟩,
 some ⟨.func,1,8,[.nilf],false,false⟩,
 some ⟨.struct [(0,47),(5,3)],6,48,[.int .i64 0,.int .i64 0,.int .i64 0,.int .i64 0,.int .i64 0,.int .i64 0],true,true⟩,
 some ⟨.struct [(0,47),(5,3)],6,48,[.int .i64 0,.int .i64 0,.int .i64 0,.int .i64 0,.int .i64 0,.int .i64 0],true,true⟩,
 some ⟨.func,1,8,[.nilf],false,false⟩,
 some ⟨.func,1,8,[.nilf],false,false⟩,
 some ⟨.func,1,8,[.nilf],false,false⟩,
 none,
 some ⟨.func,1,8,[.nilf],false,false⟩,
 some ⟨.func,1,8,[.nilf],false,false⟩,
 none,
 some ⟨.func,1,8,[.nilf],false,false⟩,
 some ⟨.func,1,8,[.nilf],false,false⟩,
 some ⟨.func,1,8,[.nilf],false,false⟩,
 some ⟨.func,1,8,[.nilf],false,false⟩,
 some ⟨.func,1,8,[.nilf],false,false⟩,
 some ⟨.func,1,8,[.nilf],false,false⟩,
 some ⟨.func,1,8,[.nilf],false,false⟩,
 some ⟨.struct [(0,27),(2,4),(3,96),(4,97),(5,98),(6,99)],7,88,[.nils,.nils,.bool false,.nilf,.nilf,.nilf,.nilf],false,false⟩,
 some ⟨.struct [(0,27),(2,4),(3,96),(4,97),(5,98),(6,99)],7,88,[.nils,.nils,.bool false,.nilf,.nilf,.nilf,.nilf],false,false⟩,
 some ⟨.slice 107,1,24,[.nils],false,false⟩,
 some ⟨.func,1,8,[.nilf],false,false⟩,
 some ⟨.struct [(0,3),(1,3)],2,16,[.int .i64 0,.int .i64 0],true,true⟩,
 some ⟨.struct [(0,3),(1,3)],2,16,[.int .i64 0,.int .i64 0],true,true⟩,
 some ⟨.struct [(0,47),(5,4)],6,48,[.int .i64 0,.int .i64 0,.int .i64 0,.int .i64 0,.int .i64 0,.bool false],true,true⟩,
 some ⟨.struct [(0,47),(5,4)],6,48,[.int .i64 0,.int .i64 0,.int .i64 0,.int .i64 0,.int .i64 0,.bool false],true,true⟩,
 some ⟨.ptr,1,8,[.nilp],false,false⟩,
 some ⟨.ptr,1,8,[.nilp],false,false⟩,
 some ⟨.func,1,8,[.nilf],false,false⟩,
 none,
 some ⟨.func,1,8,[.nilf],false,false⟩,
 some ⟨.func,1,8,[.nilf],false,false⟩,
 some ⟨.func,1,8,[.nilf],false,false⟩,
 some ⟨.ptr,1,8,[.nilp],false,false⟩,
 some ⟨.slice 5,1,24,[.nils],false,false⟩,
 some ⟨.struct [(0,115),(1,116)],2,32,[.nilp,.nils],false,false⟩,
 some ⟨.struct [(0,115),(1,116)],2,32,[.nilp,.nils],false,false⟩,
 some ⟨.other,1,16,[.nili],false,false⟩,
 some ⟨.other,1,16,[.nili],false,false⟩,
 none,
 some ⟨.func,1,8,[.nilf],false,false⟩,
 some ⟨.func,1,8,[.nilf],false,false⟩,
 some ⟨.func,1,8,[.nilf],false,false⟩,
 some ⟨.func,1,8,[.nilf],false,false⟩,
 some ⟨.func,1,8,[.nilf],false,false⟩,
 some ⟨.struct [],0,0,[],true,true⟩,
 some ⟨.struct [],0,0,[],true,true⟩,
 some ⟨.struct [],0,0,[],true,true⟩,
 some ⟨.struct [],0,0,[],true,true⟩,
 some ⟨.struct [(0,129),(0,130)],0,0,[],true,true⟩,
 some ⟨.struct [(0,129),(0,130)],0,0,[],true,true⟩,
 some ⟨.struct [(0,129)],0,0,[],true,true⟩,
 some ⟨.struct [(0,129)],0,0,[],true,true⟩,
 some ⟨.struct [(0,130)],0,0,[],true,true⟩,
 some ⟨.struct [(0,130)],0,0,[],true,true⟩,
 some ⟨.func,1,8,[.nilf],false,false⟩,
 some ⟨.struct [(0,3),(1,3),(2,4)],3,24,[.int .i64 0,.int .i64 0,.bool false],true,true⟩,
 some ⟨.struct [(0,3),(1,3),(2,4)],3,24,[.int .i64 0,.int .i64 0,.bool false],true,true⟩,
 none,
 some ⟨.func,1,8,[.nilf],false,false⟩,
 none,
 some ⟨.func,1,8,[.nilf],false,false⟩,
 some ⟨.func,1,8,[.nilf],false,false⟩,
 some ⟨.func,1,8,[.nilf],false,false⟩,
 some ⟨.func,1,8,[.nilf],false,false⟩,
 some ⟨.func,1,8,[.nilf],false,false⟩,
 some ⟨.func,1,8,[.nilf],false,false⟩,
 some ⟨.func,1,8,[.nilf],false,false⟩,
 some ⟨.func,1,8,[.nilf],false,false⟩,
 some ⟨.func,1,8,[.nilf],false,false⟩,
 some ⟨.func,1,8,[.nilf],false,false⟩,
 some ⟨.func,1,8,[.nilf],false,false⟩,
 some ⟨.func,1,8,[.nilf],false,false⟩,
 some ⟨.func,1,8,[.nilf],false,false⟩,
 some ⟨.func,1,8,[.nilf],false,false⟩,
 some ⟨.func,1,8,[.nilf],false,false⟩,
 some ⟨.func,1,8,[.nilf],false,false⟩,
 some ⟨.func,1,8,[.nilf],false,false⟩,
 some ⟨.func,1,8,[.nilf],false,false⟩,
 some ⟨.func,1,8,[.nilf],false,false⟩,
 none,
 some ⟨.func,1,8,[.nilf],false,false⟩,
 some ⟨.func,1,8,[.nilf],false,false⟩,
 some ⟨.func,1,8,[.nilf],false,false⟩,
 some ⟨.slice 170,1,24,[.nils],false,false⟩,
 some ⟨.slice 207,1,24,[.nils],false,false⟩,
 some ⟨.slice 4,1,24,[.nils],false,false⟩,
 some ⟨.struct [(0,3),(1,167),(2,168)],3,56,[.int .i64 0,.nils,.nils],false,false⟩,
 some ⟨.struct [(0,3),(1,167),(2,168)],3,56,[.int .i64 0,.nils,.nils],false,false⟩,
 some ⟨.func,1,8,[.nilf],false,false⟩,
 some ⟨.func,1,8,[.nilf],false,false⟩,
 some ⟨.func,1,8,[.nilf],false,false⟩,
 some ⟨.func,1,8,[.nilf],false,false⟩,
 some ⟨.struct [(0,3),(1,3),(2,3)],3,24,[.int .i64 0,.int .i64 0,.int .i64 0],true,true⟩,
 some ⟨.struct [(0,3),(1,3),(2,3)],3,24,[.int .i64 0,.int .i64 0,.int .i64 0],true,true⟩,
 none,
 some ⟨.func,1,8,[.nilf],false,false⟩,
 some ⟨.func,1,8,[.nilf],false,false⟩,
 some ⟨.func,1,8,[.nilf],false,false⟩,
 some ⟨.func,1,8,[.nilf],false,false⟩,
 some ⟨.ptr,1,8,[.nilp],false,false⟩,
 some ⟨.func,1,8,[.nilf],false,false⟩,
 none,
 some ⟨.func,1,8,[.nilf],false,false⟩,
 some ⟨.func,1,8,[.nilf],false,false⟩,
 some ⟨.func,1,8,[.nilf],false,false⟩,
 none,
 some ⟨.func,1,8,[.nilf],false,false⟩,
 some ⟨.func,1,8,[.nilf],false,false⟩,
 none,
 some ⟨.func,1,8,[.nilf],false,false⟩,
 some ⟨.func,1,8,[.nilf],false,false⟩,
 none,
 some ⟨.func,1,8,[.nilf],false,false⟩,
 none,
 some ⟨.func,1,8,[.nilf],false,false⟩,
 some ⟨.func,1,8,[.nilf],false,false⟩,
 some ⟨.func,1,8,[.nilf],false,false⟩,
 some ⟨.func,1,8,[.nilf],false,false⟩,
 some ⟨.func,1,8,[.nilf],false,false⟩,
 some ⟨.func,1,8,[.nilf],false,false⟩,
 some ⟨.func,1,8,[.nilf],false,false⟩,
 some ⟨.func,1,8,[.nilf],false,false⟩,
 some ⟨.func,1,8,[.nilf],false,false⟩,
 some ⟨.struct [(0,47),(5,3),(6,3),(7,25)],8,80,[.int .i64 0,.int .i64 0,.int .i64 0,.int .i64 0,.int .i64 0,.int .i64 0,.int .i64 0,.nils],false,false⟩,
 some ⟨.struct [(0,47),(5,3),(6,3),(7,25)],8,80,[.int .i64 0,.int .i64 0,.int .i64 0,.int .i64 0,.int .i64 0,.int .i64 0,.int .i64 0,.nils],false,false⟩,
 some ⟨.func,1,8,[.nilf],false,false⟩,
 some ⟨.func,1,8,[.nilf],false,false⟩,
 some ⟨.arr 7 3,7,56,[.int .i64 0,.int .i64 0,.int .i64 0,.int .i64 0,.int .i64 0,.int .i64 0,.int .i64 0],true,true⟩,
 none,
 some ⟨.func,1,8,[.nilf],false,false⟩,
 some ⟨.func,1,8,[.nilf],false,false⟩,
 some ⟨.func,1,8,[.nilf],false,false⟩,
 some ⟨.int .u64,1,8,[.int .u64 0],false,false⟩,
 some ⟨.func,1,8,[.nilf],false,false⟩,
 some ⟨.func,1,8,[.nilf],false,false⟩,
 some ⟨.func,1,8,[.nilf],false,false⟩,
 some ⟨.func,1,8,[.nilf],false,false⟩,
 some ⟨.func,1,8,[.nilf],false,false⟩,
 some ⟨.arr 256 5,256,256,[.int .u8 0,.int .u8 0,.int .u8 0,.int .u8 0,.int .u8 0,.int .u8 0,.int .u8 0,.int .u8 0,.int .u8 0,.int .u8 0,.int .u8 0,.int .u8 0,.int .u8 0,.int .u8 0,.int .u8 0,.int .u8 0,.int .u8 0,.int .u8 0,.int .u8 0,.int .u8 0,.int .u8 0,.int .u8 0,.int .u8 0,.int .u8 0,.int .u8 0,.int .u8 0,.int .u8 0,.int .u8 0,.int .u8 0,.int .u8 0,.int .u8 0,.int .u8 0,.int .u8 0,.int .u8 0,.int .u8 0,.int .u8 0,.int .u8 0,.int .u8 0,.int .u8 0,.int .u8 0,.int .u8 0,.int .u8 0,.int .u8 0,.int .u8 0,.int .u8 0,.int .u8 0,.int .u8 0,.int .u8 0,.int .u8 0,.int .u8 0,.int .u8 0,.int .u8 0,.int .u8 0,.int .u8 0,.int .u8 0,.int .u8 0,.int .u8 0,.int .u8 0,.int .u8 0,.int .u8 0,.int .u8 0,.int .u8 0,.int .u8 0,.int .u8 0,.int .u8 0,.int .u8 0,.int .u8 0,.int .u8 0,.int .u8 0,.int .u8 0,.int .u8 0,.int .u8 0,.int .u8 0,.int .u8 0,.int .u8 0,.int .u8 0,.int .u8 0,.int .u8 0,.int .u8 0,.int .u8 0,.int .u8 0,.int .u8 0,.int .u8 0,.int .u8 0,.int .u8 0,.int .u8 0,.int .u8 0,.int .u8 0,.int .u8 0,.int .u8 0,.int .u8 0,.int .u8 0,.int .u8 0,.int .u8 0,.int .u8 0,.int .u8 0,.int .u8 0,.int .u8 0,.int .u8 0,.int .u8 0,.int .u8 0,.int .u8 0,.int .u8 0,.int .u8 0,.int .u8 0,.int .u8 0,.int .u8 0,.int .u8 0,.int .u8 0,.int .u8 0,.int .u8 0,.int .u8 0,.int .u8 0,.int .u8 0,.int .u8 0,.int .u8 0,.int .u8 0,.int .u8 0,.int .u8 0,.int .u8 0,.int .u8 0,.int .u8 0,.int .u8 0,.int .u8 0,.int .u8 0,.int .u8 0,.int .u8 0,.int .u8 0,.int .u8 0,.int .u8 0,.int .u8 0,.int .u8 0,.int .u8 0,.int .u8 0,.int .u8 0,.int .u8 0,.int .u8 0,.int .u8 0,.int .u8 0,.int .u8 0,.int .u8 0,.int .u8 0,.int .u8 0,.int .u8 0,.int .u8 0,.int .u8 0,.int .u8 0,.int .u8 0,.int .u8 0,.int .u8 0,.int .u8 0,.int .u8 0,.int .u8 0,.int .u8 0,.int .u8 0,.int .u8 0,.int .u8 0,.int .u8 0,.int .u8 0,.int .u8 0,.int .u8 0,.int .u8 0,.int .u8 0,.int .u8 0,.int .u8 0,.int .u8 0,.int .u8 0,.int .u8 0,.int .u8 0,.int .u8 0,.int .u8 0,.int .u8 0,.int .u8 0,.int .u8 0,.int .u8 0,.int .u8 0,.int .u8 0,.int .u8 0,.int .u8 0,.int .u8 0,.int .u8 0,.int .u8 0,.int .u8 0,.int .u8 0,.int .u8 0,.int .u8 0,.int .u8 0,.int .u8 0,.int .u8 0,.int .u8 0,.int .u8 0,.int .u8 0,.int .u8 0,.int .u8 0,.int .u8 0,.int .u8 0,.int .u8 0,.int .u8 0,.int .u8 0,.int .u8 0,.int .u8 0,.int .u8 0,.int .u8 0,.int .u8 0,.int .u8 0,.int .u8 0,.int .u8 0,.int .u8 0,.int .u8 0,.int .u8 0,.int .u8 0,.int .u8 0,.int .u8 0,.int .u8 0,.int .u8 0,.int .u8 0,.int .u8 0,.int .u8 0,.int .u8 0,.int .u8 0,.int .u8 0,.int .u8 0,.int .u8 0,.int .u8 0,.int .u8 0,.int .u8 0,.int .u8 0,.int .u8 0,.int .u8 0,.int .u8 0,.int .u8 0,.int .u8 0,.int .u8 0,.int .u8 0,.int .u8 0,.int .u8 0,.int .u8 0,.int .u8 0,.int .u8 0,.int .u8 0,.int .u8 0,.int .u8 0,.int .u8 0,.int .u8 0,.int .u8 0,.int .u8 0,.int .u8 0,.int .u8 0,.int .u8 0,.int .u8 0,.int .u8 0,.int .u8 0,.int .u8 0,.int .u8 0,.int .u8 0,.int .u8 0],true,true⟩,
 some ⟨.struct [(0,5),(1,5)],2,2,[.int .u8 0,.int .u8 0],true,true⟩,
 some ⟨.struct [(0,5),(1,5)],2,2,[.int .u8 0,.int .u8 0],true,true⟩,
 some ⟨.arr 16 223,32,32,[.int .u8 0,.int .u8 0,.int .u8 0,.int .u8 0,.int .u8 0,.int .u8 0,.int .u8 0,.int .u8 0,.int .u8 0,.int .u8 0,.int .u8 0,.int .u8 0,.int .u8 0,.int .u8 0,.int .u8 0,.int .u8 0,.int .u8 0,.int .u8 0,.int .u8 0,.int .u8 0,.int .u8 0,.int .u8 0,.int .u8 0,.int .u8 0,.int .u8 0,.int .u8 0,.int .u8 0,.int .u8 0,.int .u8 0,.int .u8 0,.int .u8 0,.int .u8 0],false,true⟩,
 some ⟨.int .u32,1,4,[.int .u32 0],false,false⟩,
 none,
 some ⟨.func,1,8,[.nilf],false,false⟩,
 some ⟨.func,1,8,[.nilf],false,false⟩,
 some ⟨.int .i64,1,8,[.int .i64 0],false,false⟩,
 none,
 some ⟨.func,1,8,[.nilf],false,false⟩,
 some ⟨.func,1,8,[.nilf],false,false⟩,
 some ⟨.func,1,8,[.nilf],false,false⟩,
 some ⟨.func,1,8,[.nilf],false,false⟩,
 some ⟨.func,1,8,[.nilf],false,false⟩,
 some ⟨.func,1,8,[.nilf],false,false⟩,
 some ⟨.int .u64,1,8,[.int .u64 0],false,false⟩,
 some ⟨.arr 24 5,24,24,[.int .u8 0,.int .u8 0,.int .u8 0,.int .u8 0,.int .u8 0,.int .u8 0,.int .u8 0,.int .u8 0,.int .u8 0,.int .u8 0,.int .u8 0,.int .u8 0,.int .u8 0,.int .u8 0,.int .u8 0,.int .u8 0,.int .u8 0,.int .u8 0,.int .u8 0,.int .u8 0,.int .u8 0,.int .u8 0,.int .u8 0,.int .u8 0],true,true⟩,
 some ⟨.func,1,8,[.nilf],false,false⟩,
 none,
 some ⟨.func,1,8,[.nilf],false,false⟩,
 some ⟨.func,1,8,[.nilf],false,false⟩,
 some ⟨.int .u64,1,8,[.int .u64 0],false,false⟩,
 some ⟨.func,1,8,[.nilf],false,false⟩,
 some ⟨.func,1,8,[.nilf],false,false⟩,
 some ⟨.func,1,8,[.nilf],false,false⟩,
 some ⟨.ptr,1,8,[.nilp],false,false⟩,
 some ⟨.func,1,8,[.nilf],false,false⟩,
 some ⟨.func,1,8,[.nilf],false,false⟩,
 some ⟨.arr 20 237,20,160,[.int .u64 0,.int .u64 0,.int .u64 0,.int .u64 0,.int .u64 0,.int .u64 0,.int .u64 0,.int .u64 0,.int .u64 0,.int .u64 0,.int .u64 0,.int .u64 0,.int .u64 0,.int .u64 0,.int .u64 0,.int .u64 0,.int .u64 0,.int .u64 0,.int .u64 0,.int .u64 0],true,true⟩,
 some ⟨.arr 65 5,65,65,[.int .u8 0,.int .u8 0,.int .u8 0,.int .u8 0,.int .u8 0,.int .u8 0,.int .u8 0,.int .u8 0,.int .u8 0,.int .u8 0,.int .u8 0,.int .u8 0,.int .u8 0,.int .u8 0,.int .u8 0,.int .u8 0,.int .u8 0,.int .u8 0,.int .u8 0,.int .u8 0,.int .u8 0,.int .u8 0,.int .u8 0,.int .u8 0,.int .u8 0,.int .u8 0,.int .u8 0,.int .u8 0,.int .u8 0,.int .u8 0,.int .u8 0,.int .u8 0,.int .u8 0,.int .u8 0,.int .u8 0,.int .u8 0,.int .u8 0,.int .u8 0,.int .u8 0,.int .u8 0,.int .u8 0,.int .u8 0,.int .u8 0,.int .u8 0,.int .u8 0,.int .u8 0,.int .u8 0,.int .u8 0,.int .u8 0,.int .u8 0,.int .u8 0,.int .u8 0,.int .u8 0,.int .u8 0,.int .u8 0,.int .u8 0,.int .u8 0,.int .u8 0,.int .u8 0,.int .u8 0,.int .u8 0,.int .u8 0,.int .u8 0,.int .u8 0,.int .u8 0],true,true⟩,
 some ⟨.ptr,1,8,[.nilp],false,false⟩,
 none,
 some ⟨.func,1,8,[.nilf],false,false⟩,
 some ⟨.arr 32 5,32,32,[.int .u8 0,.int .u8 0,.int .u8 0,.int .u8 0,.int .u8 0,.int .u8 0,.int .u8 0,.int .u8 0,.int .u8 0,.int .u8 0,.int .u8 0,.int .u8 0,.int .u8 0,.int .u8 0,.int .u8 0,.int .u8 0,.int .u8 0,.int .u8 0,.int .u8 0,.int .u8 0,.int .u8 0,.int .u8 0,.int .u8 0,.int .u8 0,.int .u8 0,.int .u8 0,.int .u8 0,.int .u8 0,.int .u8 0,.int .u8 0,.int .u8 0,.int .u8 0],true,true⟩,
 some ⟨.arr 64 5,64,64,[.int .u8 0,.int .u8 0,.int .u8 0,.int .u8 0,.int .u8 0,.int .u8 0,.int .u8 0,.int .u8 0,.int .u8 0,.int .u8 0,.int .u8 0,.int .u8 0,.int .u8 0,.int .u8 0,.int .u8 0,.int .u8 0,.int .u8 0,.int .u8 0,.int .u8 0,.int .u8 0,.int .u8 0,.int .u8 0,.int .u8 0,.int .u8 0,.int .u8 0,.int .u8 0,.int .u8 0,.int .u8 0,.int .u8 0,.int .u8 0,.int .u8 0,.int .u8 0,.int .u8 0,.int .u8 0,.int .u8 0,.int .u8 0,.int .u8 0,.int .u8 0,.int .u8 0,.int .u8 0,.int .u8 0,.int .u8 0,.int .u8 0,.int .u8 0,.int .u8 0,.int .u8 0,.int .u8 0,.int .u8 0,.int .u8 0,.int .u8 0,.int .u8 0,.int .u8 0,.int .u8 0,.int .u8 0,.int .u8 0,.int .u8 0,.int .u8 0,.int .u8 0,.int .u8 0,.int .u8 0,.int .u8 0,.int .u8 0,.int .u8 0,.int .u8 0],true,true⟩,
 some ⟨.struct [(0,17),(1,17),(2,17),(3,9)],4,40,[.nilp,.nilp,.nilp,.str []],false,false⟩,
 some ⟨.struct [(0,17),(1,17),(2,17),(3,9)],4,40,[.nilp,.nilp,.nilp,.str []],false,false⟩,
 some ⟨.arr 0 16,0,0,[],false,false⟩,
 some ⟨.struct [(0,259)],0,0,[],false,false⟩,
 some ⟨.struct [(0,259)],0,0,[],false,false⟩,
 some ⟨.func,1,8,[.nilf],false,false⟩,
 some ⟨.int .u8,1,1,[.int .u8 0],false,false⟩,
 some ⟨.int .u8,1,1,[.int .u8 0],false,false⟩,
 some ⟨.func,1,8,[.nilf],false,false⟩,
 some ⟨.int .i32,1,4,[.int .i32 0],false,false⟩,
 some ⟨.int .i32,1,4,[.int .i32 0],false,false⟩,
 some ⟨.struct [(0,12),(1,12),(2,225),(3,263),(4,5),(5,5),(6,264),(7,265),(8,182),(9,266),(10,267)],11,48,[.int .u64 0,.int .u64 0,.int .u32 0,.int .u8 0,.int .u8 0,.int .u8 0,.int .u8 0,.nilf,.nilp,.int .i32 0,.int .i32 0],false,false⟩,
 some ⟨.struct [(0,12),(1,12),(2,225),(3,263),(4,5),(5,5),(6,264),(7,265),(8,182),(9,266),(10,267)],11,48,[.int .u64 0,.int .u64 0,.int .u32 0,.int .u8 0,.int .u8 0,.int .u8 0,.int .u8 0,.nilf,.nilp,.int .i32 0,.int .i32 0],false,false⟩,
 some ⟨.func,1,8,[.nilf],false,false⟩,
 some ⟨.func,1,8,[.nilf],false,false⟩,
 none,
 some ⟨.func,1,8,[.nilf],false,false⟩,
 some ⟨.func,1,8,[.nilf],false,false⟩,
 none,
 some ⟨.func,1,8,[.nilf],false,false⟩]
def okL:List Nat:=[3,4,5,6,7,8,9,10,11,12,13,14,15,16,17,18,19,20,21,22,23,24,25,26,27,28,29,30,31,32,33,34,35,36,37,38,39,40,41,42,43,44,45,46,47,48,49,50,51,52,53,54,55,56,57,58,59,60,61,62,63,64,65,66,67,68,69,70,71,72,73,74,75,76,77,78,79,80,81,82,83,84,85,86,87,89,90,91,92,93,94,95,96,97,98,99,100,101,102,103,104,105,106,107,108,109,110,111,113,114,115,117,118,119,120,121,122,123,124,125,126,127,128,129,131,132,133,134,135,136,137,138,139,140,141,142,143,144,145,146,148,149,150,151,152,153,154,155,156,157,158,159,176,177,178,179,180,181,182,183,184,185,186,187,188,189,190,191,192,193,194,195,196,197,198,199,200,201,202,203,204,205,206,207,208,209,210,211,212,213]
def pureL:List Nat:=[4,5,6,7,8,10,16,17,18,19,20,21,22,23,24,25,26,29,30,31,32,33,34,35,37,40,43,44,46,48,49,50,51,52,53,54,55,56,57,58,59,60,62,63,64,65,66,67,71,72,74,75,76,78,80,81,82,83,85,86,87,89,90,91,92,93,94,95,96,98,100,102,104,105,106,107,109,111,114,115,117,118,119,120,121,122,123,124,125,126,127,128,131,132,133,134,135,136,137,138,139,140,141,142,143,144,145,146,148,149,150,151,152,153,154,155,156,157,158,159,176,177,178,179,180,181,182,183,184,185,186,188,189,190,191,192,193,194,195,196,197,198,199,200,201,202,203,204,205,206,207,208,209,210,211,212,213,3]
theorem tab_eq:tab=(List.range 277).map (tdOf Tryz.prog):=by kernel_rfl
noncomputable def Cx (h np:List Nat):Ctx:={ P:=Tryz.prog,ti:=tiTab tab,fnok:=fun f=>okL.contains f,pureFn:=fun f=>pureL.contains f&& !h.contains f&& !np.contains f,hFn:=fun f=>h.contains f }
noncomputable def C:Ctx:=Cx [] []
theorem fine:okL.all (fnFine Tryz.prog)=true:=by kernel_rfl
theorem laid:laidOutB Tryz.prog=true:=by kernel_rfl
theorem few:Tryz.prog.types.size+2≤10000:=of_decide_eq_true (by kernel_rfl)
theorem tok:TOk Tryz.prog (tiTab tab):=tiTab_ok laid few tab_eq
theorem okx (h np:List Nat):COk (Cx h np):=cok_of okL tok fine fun f hf=>by simpa [Cx] using hf
theorem ok:COk C:=okx [] []
theorem mixed:Tryz.prog.follows .mixedOrders=true:=Tryz.checked.mixed

abbrev sg (v:Int) (d t:Bool):AV:=.agg [.int .i64 v,.bool d,.bool t]
def ticks (v:Int) (d t:Bool):Int:=
 if v<1∨7<v∨(d&&t)=true then 0 else
  let n:Int:=if v=1 then 384 else if v=2 then 192 else if v=3 then 96 else if v=4 then 48 else if v=5 then 24 else if v=6 then 12 else 6
  if d=true then n / 2 * 3 else if t=true then n / 3 * 2 else n
def A100:Ann:=fun r=>match r with
 |0=>{ slots:=[(0,0)] }
 |_=>{}
theorem seven {v:Int} (h1:¬v<1) (h2:¬7<v):v=1∨v=2∨v=3∨v=4∨v=5∨v=6∨v=7:=by omega
theorem ticks_spec (v:Int) (d t:Bool):PRet C.P 100 [sg v d t] (.int .i64 (ticks v d t)):=by
 by_cases h1:v<1
 ·refine pret_of ok mixed (A:=A100) 1 Tryz.func100 rfl ?_
  (repeat ((conv=>whnf);first|exact rfl|exact ⟨rfl,rfl⟩|refine ⟨rfl,?_⟩|refine ⟨by decide,?_⟩|refine ⟨by kernel_rfl,?_⟩|(intro ep)))
  conv=>whnf
  rw [decide_eq_true h1];exact ⟨rfl,by simp [ticks,h1]⟩
 by_cases h2:7<v
 ·refine pret_of ok mixed (A:=A100) 1 Tryz.func100 rfl ?_
  (repeat ((conv=>whnf);first|exact rfl|exact ⟨rfl,rfl⟩|refine ⟨rfl,?_⟩|refine ⟨by decide,?_⟩|refine ⟨by kernel_rfl,?_⟩|(intro ep)))
  conv=>whnf
  rw [decide_eq_false h1]
  (repeat ((conv=>whnf);first|exact rfl|exact ⟨rfl,rfl⟩|refine ⟨rfl,?_⟩|refine ⟨by decide,?_⟩|refine ⟨by kernel_rfl,?_⟩|(intro ep)))
  conv=>whnf
  rw [show decide (v>7)=true from decide_eq_true h2];exact ⟨rfl,by simp [ticks,h2]⟩
 rcases seven h1 h2 with rfl|rfl|rfl|rfl|rfl|rfl|rfl<;>cases d<;>cases t<;>
  (refine pret_of ok mixed (A:=A100) 1 Tryz.func100 rfl ?_;(repeat ((conv=>whnf);first|exact rfl|exact ⟨rfl,rfl⟩|refine ⟨rfl,?_⟩|refine ⟨by decide,?_⟩|refine ⟨by kernel_rfl,?_⟩|(intro ep))))

def right (v:Int) (d t:Bool):Bool:=
 if v=0 then !d&& !t else decide (1≤v)&&decide (v≤7)&& !(d&&t)
theorem right_spec (v:Int) (d t:Bool):PRet C.P 48 [sg v d t] (.bool (right v d t)):=by
 refine pret_of ok mixed (A:=A100) 1 Tryz.func48 rfl ?_
 (repeat ((conv=>whnf);first|exact rfl|exact ⟨rfl,rfl⟩|refine ⟨rfl,?_⟩|refine ⟨by decide,?_⟩|refine ⟨by kernel_rfl,?_⟩|(intro ep)))
 conv=>whnf
 refine ifB (fun h0=>?_) (fun h0=>?_)
 ·simp only [beq_iff_eq] at h0;subst h0;cases d<;>cases t<;>(repeat ((conv=>whnf);first|exact rfl|exact ⟨rfl,rfl⟩|refine ⟨rfl,?_⟩|refine ⟨by decide,?_⟩|refine ⟨by kernel_rfl,?_⟩|(intro ep)))
 simp only [beq_eq_false_iff_ne,ne_eq] at h0
 (repeat ((conv=>whnf);first|exact rfl|exact ⟨rfl,rfl⟩|refine ⟨rfl,?_⟩|refine ⟨by decide,?_⟩|refine ⟨by kernel_rfl,?_⟩|(intro ep)))
 conv=>whnf
 refine ifB (fun h1=>?_) (fun h1=>?_)
 ·(repeat ((conv=>whnf);first|exact rfl|exact ⟨rfl,rfl⟩|refine ⟨rfl,?_⟩|refine ⟨by decide,?_⟩|refine ⟨by kernel_rfl,?_⟩|(intro ep)))
  conv=>whnf
  refine ifB (fun h2=>?_) (fun h2=>?_)
  ·cases d<;>cases t<;>(repeat ((conv=>whnf);first|exact rfl|exact ⟨rfl,rfl⟩|refine ⟨rfl,?_⟩|refine ⟨by decide,?_⟩|refine ⟨by kernel_rfl,?_⟩|(intro ep)))
   all_goals (conv=>whnf);simp_all [right]
  ·refine ⟨rfl,?_⟩
   simp_all [right]
   intros;exfalso;omega
 ·refine ⟨rfl,?_⟩
  simp_all [right]
  intros;exfalso;omega
theorem refTicks_spec (v:Int) (d t:Bool):PRet C.P 20 [sg v d t] (.int .i64 (ticks v d t)):=by
 refine pret_of ok mixed (A:=A100) 1 Tryz.func20 rfl ?_
 (repeat ((conv=>whnf);first|exact rfl|exact ⟨rfl,rfl⟩|refine ⟨rfl,?_⟩|refine ⟨by decide,?_⟩|refine ⟨by kernel_rfl,?_⟩|(intro ep)))
 conv=>whnf
 refine ⟨_,right_spec v d t,?_⟩
 conv=>whnf
 refine ifB (fun h0=>?_) (fun h0=>?_)
 ·(repeat ((conv=>whnf);first|exact rfl|exact ⟨rfl,rfl⟩|refine ⟨rfl,?_⟩|refine ⟨by decide,?_⟩|refine ⟨by kernel_rfl,?_⟩|(intro ep)))
  simp only [Bool.not_eq_true'] at h0;have:ticks v d t=0:=by
   unfold right at h0;unfold ticks
   split at h0
   ·rename_i e;subst e;simp
   ·rw [if_pos];simp only [Bool.and_eq_false_iff,decide_eq_false_iff_not,Bool.not_eq_false'] at h0
    rcases h0 with (h|h)|h
    ·left;omega
    ·right;left;omega
    ·right;right;exact h
  rw [this]
 ·(repeat ((conv=>whnf);first|exact rfl|exact ⟨rfl,rfl⟩|refine ⟨rfl,?_⟩|refine ⟨by decide,?_⟩|refine ⟨by kernel_rfl,?_⟩|(intro ep)))
  conv=>whnf
  refine ifB (fun h1=>?_) (fun h1=>?_)
  ·(repeat ((conv=>whnf);first|exact rfl|exact ⟨rfl,rfl⟩|refine ⟨rfl,?_⟩|refine ⟨by decide,?_⟩|refine ⟨by kernel_rfl,?_⟩|(intro ep)))
   conv=>whnf
   simp only [beq_iff_eq] at h1;subst h1;exact rfl
  ·simp at h0 h1;have h2:(v=1∨v=2∨v=3∨v=4∨v=5∨v=6∨v=7)∧(d&&t)=false:=by
    simp [right,h1] at h0;refine ⟨by omega,?_⟩;have:=h0.2;cases d<;>cases t<;>simp_all
   obtain ⟨rfl|rfl|rfl|rfl|rfl|rfl|rfl,h3⟩:=h2<;>cases d<;>cases t<;>first|(exfalso;cases h3;done)|
    ((repeat ((conv=>whnf);first|exact rfl|exact ⟨rfl,rfl⟩|refine ⟨rfl,?_⟩|refine ⟨by decide,?_⟩|refine ⟨by kernel_rfl,?_⟩|(intro ep)|refine loopU ok mixed (A:=fun _=>{}) 100 ?_)))

structure Stp where
 c:Int
 f:Int
 r:Int
 g:Int
 h:Int
 deriving DecidableEq
structure Evt where
 bar:Bool
 v:Int
 d:Bool
 t:Bool
 tie:Bool
 stops:List Stp
 deriving DecidableEq
structure Crs where
 pitch:Int
 frets:Int
 oct:Bool
 deriving DecidableEq
structure Ins where
 cs:List Crs
 steps:List Int
 deriving DecidableEq
structure Pc where
 ins:Ins
 evs:List Evt
 deriving DecidableEq
def ints (l:List Int):List (List AV):=l.map fun x=>[.int .i64 x]
def stR (s:Stp):List AV:=[.int .i64 s.c,.int .i64 s.f,.int .i64 s.r,.int .i64 s.g,.int .i64 s.h]
def stsA (l:List Stp):AV:=.lslc 5 (l.map stR) 0 l.length false
def evR (e:Evt):List AV:=[.bool e.bar,.int .i64 e.v,.bool e.d,.bool e.t,.bool e.tie,stsA e.stops]
def evsA (l:List Evt):AV:=.lslc 6 (l.map evR) 0 l.length false
def crR (c:Crs):List AV:=[.int .i64 c.pitch,.int .i64 c.frets,.bool c.oct]
def crsA (l:List Crs):AV:=.lslc 3 (l.map crR) 0 l.length false
def intsA (l:List Int):AV:=.lslc 1 (ints l) 0 l.length false
def inA (i:Ins):AV:=.agg [crsA i.cs,intsA i.steps]
def pcA (p:Pc):AV:=.agg [crsA p.ins.cs,intsA p.ins.steps,evsA p.evs]
theorem mapR {α:Type} {f:α→List AV} {l:List α} {i:Nat} (h:i<l.length):(l.map f)[0+((i:Nat):Int).toNat]? =some (f l[i]):=by
 rw [Nat.zero_add,Int.toNat_natCast,List.getElem?_map,List.getElem?_eq_getElem h];rfl
theorem intsR {l:List Int} {i:Nat} (h:i<l.length):(ints l)[0+((i:Nat):Int).toNat]? =some [.int .i64 l[i]]:=mapR h
def chkSteps (last:Int):List Int→Bool
 | []=>true
 |s::r=>decide (last<s)&&decide (s≤127)&&chkSteps s r
def highest (steps:List Int) (c:Crs):Int:=c.pitch+(if 0<c.frets then steps.getD (c.frets-1).toNat 0 else 0)+if c.oct=true then 12 else 0
def chkCs (steps:List Int):List Crs→Int
 | []=>0
 |c::r=>if c.frets<0∨(steps.length:Int)<c.frets then 13 else if c.pitch<0∨127<c.pitch∨127<highest steps c then 10 else chkCs steps r
def chkIn (i:Ins):Int:=if 14<i.cs.length∨18<i.steps.length then 2 else if i.cs.length=0 then 11 else if chkSteps 0 i.steps=false then 11 else chkCs i.steps i.cs
theorem chkSteps_bd:∀(l:List Int) (last:Int),chkSteps last l=true→∀x∈l,last<x∧x≤127:=by
 intro l
 induction l with
 |nil=>intro last _ x hx;cases hx
 |cons s r ih=>
  intro last h x hx;simp only [chkSteps,Bool.and_eq_true,decide_eq_true_eq] at h
  rcases List.mem_cons.1 hx with rfl|hx
  ·exact h.1
  ·have:=ih s h.2 x hx;omega
def A95:Ann:=fun r=>match r with
 |0=>{ slots:=[(0,0),(1,1)] }
 |_=>{}
theorem highest_spec (i:Ins) (c:Crs) (h1:chkSteps 0 i.steps=true) (h2:0≤c.frets) (h3:c.frets≤i.steps.length) (hl:i.steps.length≤18) (h4:0≤c.pitch) (h5:c.pitch≤127):
  PRet C.P 95 [inA i,.agg (crR c)] (.int .i64 (highest i.steps c)):=by
 have hf:0<c.frets→∃x,(ints i.steps)[0+(c.frets-1).toNat]? =some [.int .i64 x]∧i.steps.getD (c.frets-1).toNat 0=x∧0<x∧x≤127:=by
  intro h;have hlt:(c.frets-1).toNat<i.steps.length:=by omega
  refine ⟨i.steps[(c.frets-1).toNat],?_,?_,?_⟩
  ·rw [Nat.zero_add];simp [ints,hlt]
  ·rw [List.getD,List.getElem?_eq_getElem hlt];rfl
  ·exact chkSteps_bd _ _ h1 _ (List.getElem_mem hlt)
 refine pret_of ok mixed (A:=A95) 2 Tryz.func95 rfl ?_;unfold highest;by_cases hc:0<c.frets
 ·obtain ⟨x,x1,x2,x3,x4⟩:=hf hc;rw [if_pos hc,x2]
  (repeat' (first|exact rfl|((conv=>whnf);first|exact rfl|refine ⟨by kernel_rfl,?_⟩|exact ⟨rfl,rfl⟩|refine go0 ?_|(intro ep)|refine optS (by (try simp (disch:=omega) only [wrapI]);exact x1) ?_|(refine ifB ?_ ?_<;>intro hb<;>(try simp only [qs] at hb)<;>(try simp (disch:=omega) only [wrapI] at hb)<;>(try (exfalso;omega)))|fail)))
  all_goals (simp (disch:=omega) only [wrapI];simp [hb])
 ·rw [if_neg hc]
  (repeat' (first|exact rfl|((conv=>whnf);first|exact rfl|refine ⟨by kernel_rfl,?_⟩|exact ⟨rfl,rfl⟩|refine go0 ?_|(intro ep)|(refine ifB ?_ ?_<;>intro hb<;>(try simp only [qs] at hb)<;>(try simp (disch:=omega) only [wrapI] at hb)<;>(try (exfalso;omega)))|fail)))
  all_goals ((try simp (disch:=omega) only [wrapI]);simp [hb])
def A56:Ann:=fun r=>match r with
 |0=>{ slots:=[(0,0)] }
 |15=>{ slots:=[(2,1)] }
 |_=>{}
theorem drop_at {α:Type} {l:List α} {i:Nat} (h:i<l.length):l.drop i=l[i]::l.drop (i+1):=List.drop_eq_getElem_cons h
theorem inCheck_spec (i:Ins):PRet C.P 56 [inA i] (.int .i64 (chkIn i)):=by
 refine pret_of ok mixed (A:=A56) 2 Tryz.func56 rfl ?_
 (repeat' (first|exact rfl|((conv=>whnf);first|exact rfl|refine ⟨by kernel_rfl,?_⟩|exact ⟨rfl,rfl⟩|refine go0 ?_|(intro ep)|(refine ifB ?_ ?_<;>intro hb<;>(try simp only [qs] at hb)<;>(try simp (disch:=omega) only [wrapI] at hb)<;>(try (exfalso;omega)))|fail)))
 ·unfold chkIn;rw [if_pos (by omega)]
 ·unfold chkIn;rw [if_pos (by omega)]
 ·unfold chkIn;rw [if_neg (by omega),if_pos (by omega)]
 obtain ⟨e0,he0⟩:∃e0,e0=ep:=⟨_,rfl⟩;subst he0;(conv=>whnf);refine loopM ok mixed (A:=A56) [1,3,23,24,25] [0] (S:={ x:Nat×Int // x.1≤i.steps.length∧chkSteps x.2 (i.steps.drop x.1)=chkSteps 0 i.steps })
  (fr:=fun s=>frOf 0 71 [(1,.optr (.s 0) e0 2 0 0),(3,.int .i64 s.1.2),(23,intsA i.steps),(24,.int .i64 i.steps.length),(25,.int .i64 (s.1.1:Int))])
  (h:=fun s=>⟨[.vec e0 [[crsA i.cs,intsA i.steps]],.hole],[]⟩) (μ:=fun s=>i.steps.length-s.1.1) ⟨(0,0),by omega,rfl⟩ rfl rfl ?_
 rintro ⟨⟨k,last⟩,hk,hs⟩;simp only at hk hs;show aexR _ _ _ (frOf 0 71 [(1,.optr (.s 0) e0 2 0 0),(3,.int .i64 last),(23,intsA i.steps),(24,.int .i64 i.steps.length),(25,.int .i64 (k:Int))]) ⟨[.vec e0 [[crsA i.cs,intsA i.steps]],.hole],[]⟩ _;(conv=>whnf);refine ifB (fun h1=>?_) (fun h1=>?_)
 ·simp only [decide_eq_true_eq] at h1;have hlt:k<i.steps.length:=by omega
  rw [drop_at hlt] at hs;simp only [chkSteps] at hs
  (repeat' (first|exact rfl|((conv=>whnf);first|exact rfl|refine ⟨by kernel_rfl,?_⟩|exact ⟨rfl,rfl⟩|refine go0 ?_|(intro ep)|refine optS (intsR hlt) ?_|(refine ifB ?_ ?_<;>intro hb<;>(try simp only [qs] at hb)<;>(try simp (disch:=omega) only [wrapI] at hb)<;>(try (exfalso;omega)))|fail)))
  ·rw [decide_eq_false (by omega)] at hs;unfold chkIn;rw [if_neg (by omega),if_neg (by omega),if_pos (by rw [←hs];simp)]
  ·rw [decide_eq_false (show ¬i.steps[k]≤127 by omega)] at hs;unfold chkIn;rw [if_neg (by omega),if_neg (by omega),if_pos (by rw [←hs];simp)]
  ·rw [decide_eq_true (by omega),decide_eq_true (by omega)] at hs;refine back_of ⟨(k+1,i.steps[k]),by omega,by simpa using hs⟩ ⟨by (first|exact rfl|(simp (disch:=omega) only [wrapI];exact rfl)),rfl,by simp only;omega⟩
 simp only [decide_eq_false_iff_not] at h1;have hS:chkSteps 0 i.steps=true:=by rw [←hs,List.drop_eq_nil_of_le (by omega)];rfl
 (repeat' (first|exact rfl|((conv=>whnf);first|exact rfl|refine ⟨by kernel_rfl,?_⟩|exact ⟨rfl,rfl⟩|refine go0 ?_|(intro ep)|(refine ifB ?_ ?_<;>intro hb<;>(try simp only [qs] at hb)<;>(try simp (disch:=omega) only [wrapI] at hb)<;>(try (exfalso;omega)))|fail)))
 (conv=>whnf);refine loopM ok mixed (A:=A56) [1,39,40,41] [0] (S:={ k:Nat // k≤i.cs.length∧chkCs i.steps (i.cs.drop k)=chkCs i.steps i.cs })
  (fr:=fun s=>frOf 0 71 [(1,.optr (.s 0) e0 2 0 0),(39,crsA i.cs),(40,.int .i64 i.cs.length),(41,.int .i64 (s.1:Int))])
  (h:=fun s=>⟨[.vec e0 [[crsA i.cs,intsA i.steps]],.hole],[]⟩) (μ:=fun s=>i.cs.length-s.1) ⟨0,by omega,rfl⟩ rfl rfl ?_
 have hA:chkIn i=chkCs i.steps i.cs:=by unfold chkIn;rw [if_neg (by omega),if_neg (by omega),if_neg (by rw [hS];simp)]
 rw [hA];rintro ⟨k,hk,hs⟩;show aexR _ _ _ (frOf 0 71 [(1,.optr (.s 0) e0 2 0 0),(39,crsA i.cs),(40,.int .i64 i.cs.length),(41,.int .i64 (k:Int))]) ⟨[.vec e0 [[crsA i.cs,intsA i.steps]],.hole],[]⟩ _;(conv=>whnf);refine ifB (fun h1=>?_) (fun h1=>?_)
 ·simp only [decide_eq_true_eq] at h1;have hlt:k<i.cs.length:=by omega
  rw [drop_at hlt] at hs;simp only [chkCs] at hs
  (repeat' (first|exact rfl|((conv=>whnf);first|exact rfl|refine ⟨by kernel_rfl,?_⟩|exact ⟨rfl,rfl⟩|refine go0 ?_|(intro ep)|refine optS (mapR hlt) ?_|refine ⟨_,highest_spec i i.cs[k] hS (by omega) (by omega) (by omega) (by omega) (by omega),?_⟩|(refine ifB ?_ ?_<;>intro hb<;>(try simp only [qs] at hb)<;>(try simp (disch:=omega) only [wrapI] at hb)<;>(try (exfalso;omega)))|fail)))
  ·rw [←hs,if_pos (by omega)]
  ·rw [←hs,if_pos (by omega)]
  ·rw [←hs,if_neg (by omega),if_pos (by omega)]
  ·rw [←hs,if_neg (by omega),if_pos (by omega)]
  ·rw [←hs,if_neg (by omega),if_pos (by omega)]
  ·rw [if_neg (by omega),if_neg (by omega)] at hs;refine back_of ⟨k+1,by omega,hs⟩ ⟨by (first|exact rfl|(simp (disch:=omega) only [wrapI];exact rfl)),rfl,by simp only;omega⟩
 ·simp only [decide_eq_false_iff_not] at h1;have h0:chkCs i.steps i.cs=0:=by rw [←hs,List.drop_eq_nil_of_le (by omega)];rfl
  (repeat' (first|exact rfl|((conv=>whnf);first|exact rfl|refine ⟨by kernel_rfl,?_⟩|exact ⟨rfl,rfl⟩|refine go0 ?_|(intro ep)|(refine ifB ?_ ?_<;>intro hb<;>(try simp only [qs] at hb)<;>(try simp (disch:=omega) only [wrapI] at hb)<;>(try (exfalso;omega)))|fail)))
  rw [h0]
end Go.Ab.V
