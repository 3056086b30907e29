/- Texts of the proof: S0. -/
import Derived.Test.YtejkhflkeoihlaaGreatVB1
import Derived.Test.YtejkhflkeoihlaaGreatProg
import Derived.KernelRfl
namespace Go.Proofs.YtejkhflkeoihlaaGreat
open Go.RowKit Go.Proofs.YtejkhflkeoihlaaGreat.Vf
set_option maxRecDepth 100000
theorem mixed : Tryz.prog.follows .mixedOrders = true:=by kernel_rfl
@[simp] theorem ty0 : tyOf Tryz.prog 0 = some ⟨1,0,.other,[.f (.sc (.tuple { toList:=[] }))]⟩:=by kernel_rfl
@[simp] theorem ty3 : tyOf Tryz.prog 3 = some ⟨1,8,.other,[.f (.sc (.int .i64 (0)))]⟩:=by kernel_rfl
@[simp] theorem ty4 : tyOf Tryz.prog 4 = some ⟨1,1,.other,[.f (.sc (.bool false))]⟩:=by kernel_rfl
@[simp] theorem ty9 : tyOf Tryz.prog 9 = some ⟨1,16,.other,[.f (.sc (.string ⟨#[]⟩))]⟩:=by kernel_rfl
@[simp] theorem ty22 : tyOf Tryz.prog 22 = some ⟨1,24,.slice 166,[.f (.sl [] .nil)]⟩:=by kernel_rfl
@[simp] theorem ty23 : tyOf Tryz.prog 23 = some ⟨1,24,.slice 164,[.f (.sl [] .nil)]⟩:=by kernel_rfl
@[simp] theorem ty24 : tyOf Tryz.prog 24 = some ⟨1,24,.slice 168,[.f (.sl [] .nil)]⟩:=by kernel_rfl
@[simp] theorem ty25 : tyOf Tryz.prog 25 = some ⟨1,24,.slice 123,[.f (.sl [] .nil)]⟩:=by kernel_rfl
@[simp] theorem ty26 : tyOf Tryz.prog 26 = some ⟨1,24,.slice 175,[.f (.sl [] .nil)]⟩:=by kernel_rfl
@[simp] theorem ty27 : tyOf Tryz.prog 27 = some ⟨1,24,.slice 178,[.f (.sl [] .nil)]⟩:=by kernel_rfl
@[simp] theorem ty28 : tyOf Tryz.prog 28 = some ⟨1,24,.slice 133,[.f (.sl [] .nil)]⟩:=by kernel_rfl
@[simp] theorem ty29 : tyOf Tryz.prog 29 = some ⟨1,24,.slice 3,[.f (.sl [] .nil)]⟩:=by kernel_rfl
@[simp] theorem ty31 : tyOf Tryz.prog 31 = some ⟨9,208,.struct [(0,9),(1,22),(2,23),(3,24),(4,25),(5,26),(6,27),(7,28),(8,29)],[.f (.sc (.string ⟨#[]⟩)),.f (.sl [] .nil),.f (.sl [] .nil),.f (.sl [] .nil),.f (.sl [] .nil),.f (.sl [] .nil),.f (.sl [] .nil),.f (.sl [] .nil),.f (.sl [] .nil)]⟩:=by kernel_rfl
@[simp] theorem ty33 : tyOf Tryz.prog 33 = some ⟨8,64,.struct [(0,3),(1,3),(2,3),(3,3),(4,3),(5,3),(6,3),(7,3)],[.f (.sc (.int .i64 (0))),.f (.sc (.int .i64 (0))),.f (.sc (.int .i64 (0))),.f (.sc (.int .i64 (0))),.f (.sc (.int .i64 (0))),.f (.sc (.int .i64 (0))),.f (.sc (.int .i64 (0))),.f (.sc (.int .i64 (0)))]⟩:=by kernel_rfl
@[simp] theorem ty34 : tyOf Tryz.prog 34 = some ⟨1,24,.slice 77,[.f (.sl [] .nil)]⟩:=by kernel_rfl
@[simp] theorem ty35 : tyOf Tryz.prog 35 = some ⟨1,24,.slice 158,[.f (.sl [] .nil)]⟩:=by kernel_rfl
@[simp] theorem ty37 : tyOf Tryz.prog 37 = some ⟨20,344,.struct [(0,31),(9,33),(17,34),(18,29),(19,35)],[.f (.sc (.string ⟨#[]⟩)),.f (.sl [] .nil),.f (.sl [] .nil),.f (.sl [] .nil),.f (.sl [] .nil),.f (.sl [] .nil),.f (.sl [] .nil),.f (.sl [] .nil),.f (.sl [] .nil),.f (.sc (.int .i64 (0))),.f (.sc (.int .i64 (0))),.f (.sc (.int .i64 (0))),.f (.sc (.int .i64 (0))),.f (.sc (.int .i64 (0))),.f (.sc (.int .i64 (0))),.f (.sc (.int .i64 (0))),.f (.sc (.int .i64 (0))),.f (.sl [] .nil),.f (.sl [] .nil),.f (.sl [] .nil)]⟩:=by kernel_rfl
@[simp] theorem ty38 : tyOf Tryz.prog 38 = some ⟨1,24,.slice 117,[.f (.sl [] .nil)]⟩:=by kernel_rfl
@[simp] theorem ty39 : tyOf Tryz.prog 39 = some ⟨1,24,.slice 120,[.f (.sl [] .nil)]⟩:=by kernel_rfl
@[simp] theorem ty40 : tyOf Tryz.prog 40 = some ⟨1,24,.slice 57,[.f (.sl [] .nil)]⟩:=by kernel_rfl
@[simp] theorem ty42 : tyOf Tryz.prog 42 = some ⟨4,96,.struct [(0,38),(1,29),(2,39),(3,40)],[.f (.sl [] .nil),.f (.sl [] .nil),.f (.sl [] .nil),.f (.sl [] .nil)]⟩:=by kernel_rfl
@[simp] theorem ty43 : tyOf Tryz.prog 43 = some ⟨1,24,.slice 5,[.f (.sl [] .nil)]⟩:=by kernel_rfl
@[simp] theorem ty45 : tyOf Tryz.prog 45 = some ⟨2,32,.struct [(0,3),(1,43)],[.f (.sc (.int .i64 (0))),.f (.sl [] .nil)]⟩:=by kernel_rfl
@[simp] theorem ty47 : tyOf Tryz.prog 47 = some ⟨26,472,.struct [(0,37),(20,42),(24,45)],[.f (.sc (.string ⟨#[]⟩)),.f (.sl [] .nil),.f (.sl [] .nil),.f (.sl [] .nil),.f (.sl [] .nil),.f (.sl [] .nil),.f (.sl [] .nil),.f (.sl [] .nil),.f (.sl [] .nil),.f (.sc (.int .i64 (0))),.f (.sc (.int .i64 (0))),.f (.sc (.int .i64 (0))),.f (.sc (.int .i64 (0))),.f (.sc (.int .i64 (0))),.f (.sc (.int .i64 (0))),.f (.sc (.int .i64 (0))),.f (.sc (.int .i64 (0))),.f (.sl [] .nil),.f (.sl [] .nil),.f (.sl [] .nil),.f (.sl [] .nil),.f (.sl [] .nil),.f (.sl [] .nil),.f (.sl [] .nil),.f (.sc (.int .i64 (0))),.f (.sl [] .nil)]⟩:=by kernel_rfl
@[simp] theorem ty49 : tyOf Tryz.prog 49 = some ⟨1,8,.other,[.f (.sc (.int .i64 (0)))]⟩:=by kernel_rfl
@[simp] theorem ty52 : tyOf Tryz.prog 52 = some ⟨1,24,.slice 94,[.f (.sl [] .nil)]⟩:=by kernel_rfl
@[simp] theorem ty54 : tyOf Tryz.prog 54 = some ⟨4,64,.struct [(0,4),(1,3),(2,43),(3,52)],[.f (.sc (.bool false)),.f (.sc (.int .i64 (0))),.f (.sl [] .nil),.f (.sl [] .nil)]⟩:=by kernel_rfl
@[simp] theorem ty57 : tyOf Tryz.prog 57 = some ⟨1,24,.slice 62,[.f (.sl [] .nil)]⟩:=by kernel_rfl
@[simp] theorem ty59 : tyOf Tryz.prog 59 = some ⟨3,72,.struct [(0,57),(1,57),(2,57)],[.f (.sl [] .nil),.f (.sl [] .nil),.f (.sl [] .nil)]⟩:=by kernel_rfl
@[simp] theorem ty62 : tyOf Tryz.prog 62 = some ⟨1,4,.other,[.f (.sc (.int .u32 (0)))]⟩:=by kernel_rfl
@[simp] theorem ty70 : tyOf Tryz.prog 70 = some ⟨4,32,.struct [(0,49),(1,3),(2,3),(3,3)],[.f (.sc (.int .i64 (0))),.f (.sc (.int .i64 (0))),.f (.sc (.int .i64 (0))),.f (.sc (.int .i64 (0)))]⟩:=by kernel_rfl
@[simp] theorem ty74 : tyOf Tryz.prog 74 = some ⟨1,24,.slice 139,[.f (.sl [] .nil)]⟩:=by kernel_rfl
@[simp] theorem ty75 : tyOf Tryz.prog 75 = some ⟨1,24,.slice 136,[.f (.sl [] .nil)]⟩:=by kernel_rfl
@[simp] theorem ty77 : tyOf Tryz.prog 77 = some ⟨3,56,.struct [(0,3),(1,74),(2,75)],[.f (.sc (.int .i64 (0))),.f (.sl [] .nil),.f (.sl [] .nil)]⟩:=by kernel_rfl
@[simp] theorem ty89 : tyOf Tryz.prog 89 = some ⟨1,24,.slice 54,[.f (.sl [] .nil)]⟩:=by kernel_rfl
@[simp] theorem ty92 : tyOf Tryz.prog 92 = some ⟨1,24,.slice 45,[.f (.sl [] .nil)]⟩:=by kernel_rfl
@[simp] theorem ty117 : tyOf Tryz.prog 117 = some ⟨1,24,.slice 218,[.f (.sl [] .nil)]⟩:=by kernel_rfl
@[simp] theorem ty120 : tyOf Tryz.prog 120 = some ⟨2,32,.struct [(0,3),(1,57)],[.f (.sc (.int .i64 (0))),.f (.sl [] .nil)]⟩:=by kernel_rfl
@[simp] theorem ty121 : tyOf Tryz.prog 121 = some ⟨1,24,.slice 172,[.f (.sl [] .nil)]⟩:=by kernel_rfl
@[simp] theorem ty123 : tyOf Tryz.prog 123 = some ⟨3,64,.struct [(0,9),(1,23),(2,121)],[.f (.sc (.string ⟨#[]⟩)),.f (.sl [] .nil),.f (.sl [] .nil)]⟩:=by kernel_rfl
@[simp] theorem ty128 : tyOf Tryz.prog 128 = some ⟨5,40,.array 5 3,[.f (.sc (.int .i64 (0))),.f (.sc (.int .i64 (0))),.f (.sc (.int .i64 (0))),.f (.sc (.int .i64 (0))),.f (.sc (.int .i64 (0)))]⟩:=by kernel_rfl
@[simp] theorem ty131 : tyOf Tryz.prog 131 = some ⟨1,8,.other,[.f (.sc .nilFunc)]⟩:=by kernel_rfl
@[simp] theorem ty133 : tyOf Tryz.prog 133 = some ⟨5,88,.struct [(0,3),(1,3),(2,74),(3,28),(4,28)],[.f (.sc (.int .i64 (0))),.f (.sc (.int .i64 (0))),.f (.sl [] .nil),.f (.sl [] .nil),.f (.sl [] .nil)]⟩:=by kernel_rfl
@[simp] theorem ty136 : tyOf Tryz.prog 136 = some ⟨2,16,.struct [(0,3),(1,4)],[.f (.sc (.int .i64 (0))),.f (.sc (.bool false))]⟩:=by kernel_rfl
@[simp] theorem ty139 : tyOf Tryz.prog 139 = some ⟨3,24,.struct [(0,3),(1,3),(2,3)],[.f (.sc (.int .i64 (0))),.f (.sc (.int .i64 (0))),.f (.sc (.int .i64 (0)))]⟩:=by kernel_rfl
@[simp] theorem ty146 : tyOf Tryz.prog 146 = some ⟨1,24,.slice 151,[.f (.sl [] .nil)]⟩:=by kernel_rfl
@[simp] theorem ty147 : tyOf Tryz.prog 147 = some ⟨1,24,.slice 29,[.f (.sl [] .nil)]⟩:=by kernel_rfl
@[simp] theorem ty149 : tyOf Tryz.prog 149 = some ⟨11,136,.struct [(0,33),(8,34),(9,146),(10,147)],[.f (.sc (.int .i64 (0))),.f (.sc (.int .i64 (0))),.f (.sc (.int .i64 (0))),.f (.sc (.int .i64 (0))),.f (.sc (.int .i64 (0))),.f (.sc (.int .i64 (0))),.f (.sc (.int .i64 (0))),.f (.sc (.int .i64 (0))),.f (.sl [] .nil),.f (.sl [] .nil),.f (.sl [] .nil)]⟩:=by kernel_rfl
@[simp] theorem ty151 : tyOf Tryz.prog 151 = some ⟨2,16,.struct [(0,3),(1,3)],[.f (.sc (.int .i64 (0))),.f (.sc (.int .i64 (0)))]⟩:=by kernel_rfl
@[simp] theorem ty153 : tyOf Tryz.prog 153 = some ⟨4,32,.struct [(0,3),(1,3),(2,151)],[.f (.sc (.int .i64 (0))),.f (.sc (.int .i64 (0))),.f (.sc (.int .i64 (0))),.f (.sc (.int .i64 (0)))]⟩:=by kernel_rfl
@[simp] theorem ty158 : tyOf Tryz.prog 158 = some ⟨4,32,.struct [(0,3),(1,3),(2,3),(3,3)],[.f (.sc (.int .i64 (0))),.f (.sc (.int .i64 (0))),.f (.sc (.int .i64 (0))),.f (.sc (.int .i64 (0)))]⟩:=by kernel_rfl
@[simp] theorem ty164 : tyOf Tryz.prog 164 = some ⟨2,24,.struct [(0,9),(1,3)],[.f (.sc (.string ⟨#[]⟩)),.f (.sc (.int .i64 (0)))]⟩:=by kernel_rfl
@[simp] theorem ty166 : tyOf Tryz.prog 166 = some ⟨2,40,.struct [(0,9),(1,23)],[.f (.sc (.string ⟨#[]⟩)),.f (.sl [] .nil)]⟩:=by kernel_rfl
@[simp] theorem ty168 : tyOf Tryz.prog 168 = some ⟨3,32,.struct [(0,9),(1,3),(2,3)],[.f (.sc (.string ⟨#[]⟩)),.f (.sc (.int .i64 (0))),.f (.sc (.int .i64 (0)))]⟩:=by kernel_rfl
@[simp] theorem ty170 : tyOf Tryz.prog 170 = some ⟨2,16,.struct [(0,3),(1,3)],[.f (.sc (.int .i64 (0))),.f (.sc (.int .i64 (0)))]⟩:=by kernel_rfl
@[simp] theorem ty172 : tyOf Tryz.prog 172 = some ⟨7,88,.struct [(0,3),(1,170),(3,3),(4,3),(5,74),(6,74)],[.f (.sc (.int .i64 (0))),.f (.sc (.int .i64 (0))),.f (.sc (.int .i64 (0))),.f (.sc (.int .i64 (0))),.f (.sc (.int .i64 (0))),.f (.sl [] .nil),.f (.sl [] .nil)]⟩:=by kernel_rfl
@[simp] theorem ty173 : tyOf Tryz.prog 173 = some ⟨1,24,.slice 350,[.f (.sl [] .nil)]⟩:=by kernel_rfl
@[simp] theorem ty175 : tyOf Tryz.prog 175 = some ⟨6,104,.struct [(0,9),(1,173),(2,29),(3,120),(5,3)],[.f (.sc (.string ⟨#[]⟩)),.f (.sl [] .nil),.f (.sl [] .nil),.f (.sc (.int .i64 (0))),.f (.sl [] .nil),.f (.sc (.int .i64 (0)))]⟩:=by kernel_rfl
@[simp] theorem ty176 : tyOf Tryz.prog 176 = some ⟨1,24,.slice 353,[.f (.sl [] .nil)]⟩:=by kernel_rfl
@[simp] theorem ty178 : tyOf Tryz.prog 178 = some ⟨7,96,.struct [(0,9),(1,29),(2,4),(3,170),(5,176),(6,3)],[.f (.sc (.string ⟨#[]⟩)),.f (.sl [] .nil),.f (.sc (.bool false)),.f (.sc (.int .i64 (0))),.f (.sc (.int .i64 (0))),.f (.sl [] .nil),.f (.sc (.int .i64 (0)))]⟩:=by kernel_rfl
@[simp] theorem ty214 : tyOf Tryz.prog 214 = some ⟨1,24,.slice 277,[.f (.sl [] .nil)]⟩:=by kernel_rfl
@[simp] theorem ty216 : tyOf Tryz.prog 216 = some ⟨4,64,.struct [(0,214),(1,3),(2,120)],[.f (.sl [] .nil),.f (.sc (.int .i64 (0))),.f (.sc (.int .i64 (0))),.f (.sl [] .nil)]⟩:=by kernel_rfl
@[simp] theorem ty218 : tyOf Tryz.prog 218 = some ⟨5,72,.struct [(0,3),(1,216)],[.f (.sc (.int .i64 (0))),.f (.sl [] .nil),.f (.sc (.int .i64 (0))),.f (.sc (.int .i64 (0))),.f (.sl [] .nil)]⟩:=by kernel_rfl
@[simp] theorem ty223 : tyOf Tryz.prog 223 = some ⟨1,24,.slice 9,[.f (.sl [] .nil)]⟩:=by kernel_rfl
@[simp] theorem ty231 : tyOf Tryz.prog 231 = some ⟨6,72,.array 3 164,[.f (.sc (.string ⟨#[]⟩)),.f (.sc (.int .i64 (0))),.f (.sc (.string ⟨#[]⟩)),.f (.sc (.int .i64 (0))),.f (.sc (.string ⟨#[]⟩)),.f (.sc (.int .i64 (0)))]⟩:=by kernel_rfl
@[simp] theorem ty258 : tyOf Tryz.prog 258 = some ⟨3,24,.array 3 3,[.f (.sc (.int .i64 (0))),.f (.sc (.int .i64 (0))),.f (.sc (.int .i64 (0)))]⟩:=by kernel_rfl
@[simp] theorem ty277 : tyOf Tryz.prog 277 = some ⟨2,8,.struct [(0,62),(1,62)],[.f (.sc (.int .u32 (0))),.f (.sc (.int .u32 (0)))]⟩:=by kernel_rfl
@[simp] theorem ty311 : tyOf Tryz.prog 311 = some ⟨10,232,.struct [(0,31),(9,23)],[.f (.sc (.string ⟨#[]⟩)),.f (.sl [] .nil),.f (.sl [] .nil),.f (.sl [] .nil),.f (.sl [] .nil),.f (.sl [] .nil),.f (.sl [] .nil),.f (.sl [] .nil),.f (.sl [] .nil),.f (.sl [] .nil)]⟩:=by kernel_rfl
@[simp] theorem ty314 : tyOf Tryz.prog 314 = some ⟨1,8,.other,[.f (.sc (.pointer none))]⟩:=by kernel_rfl
@[simp] theorem ty316 : tyOf Tryz.prog 316 = some ⟨10,232,.struct [(0,31),(9,29)],[.f (.sc (.string ⟨#[]⟩)),.f (.sl [] .nil),.f (.sl [] .nil),.f (.sl [] .nil),.f (.sl [] .nil),.f (.sl [] .nil),.f (.sl [] .nil),.f (.sl [] .nil),.f (.sl [] .nil),.f (.sl [] .nil)]⟩:=by kernel_rfl
@[simp] theorem ty318 : tyOf Tryz.prog 318 = some ⟨1,24,.slice 170,[.f (.sl [] .nil)]⟩:=by kernel_rfl
@[simp] theorem ty332 : tyOf Tryz.prog 332 = some ⟨10,232,.struct [(0,311)],[.f (.sc (.string ⟨#[]⟩)),.f (.sl [] .nil),.f (.sl [] .nil),.f (.sl [] .nil),.f (.sl [] .nil),.f (.sl [] .nil),.f (.sl [] .nil),.f (.sl [] .nil),.f (.sl [] .nil),.f (.sl [] .nil)]⟩:=by kernel_rfl
@[simp] theorem ty350 : tyOf Tryz.prog 350 = some ⟨3,24,.struct [(0,170),(2,3)],[.f (.sc (.int .i64 (0))),.f (.sc (.int .i64 (0))),.f (.sc (.int .i64 (0)))]⟩:=by kernel_rfl
@[simp] theorem ty353 : tyOf Tryz.prog 353 = some ⟨3,16,.struct [(0,62),(1,62),(2,3)],[.f (.sc (.int .u32 (0))),.f (.sc (.int .u32 (0))),.f (.sc (.int .i64 (0)))]⟩:=by kernel_rfl
@[simp] theorem ty391 : tyOf Tryz.prog 391 = some ⟨3,72,.struct [(0,318),(1,29),(2,29)],[.f (.sl [] .nil),.f (.sl [] .nil),.f (.sl [] .nil)]⟩:=by kernel_rfl
@[simp] theorem ty414 : tyOf Tryz.prog 414 = some ⟨4,32,.array 4 3,[.f (.sc (.int .i64 (0))),.f (.sc (.int .i64 (0))),.f (.sc (.int .i64 (0))),.f (.sc (.int .i64 (0)))]⟩:=by kernel_rfl
end Go.Proofs.YtejkhflkeoihlaaGreat
