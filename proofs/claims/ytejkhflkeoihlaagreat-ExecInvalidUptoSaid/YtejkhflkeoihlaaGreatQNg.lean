/- Texts of the proof: QNg. -/
import Derived.Test.YtejkhflkeoihlaaGreatS8
import Derived.Shelf.SlSortCmp.WholeK
import Derived.Shelf.SlSortCmp.NoneTotal
namespace Go.Proofs.YtejkhflkeoihlaaGreat
open Go.RowKit
set_option linter.unusedVariables false
def cmpZ (x y : Int) : Int:=if x < y then -1 else if y < x then 1 else 0
def cmpF (x y : Int × Int) : Int:=if cmpZ x.1 y.1 ≠ 0 then cmpZ x.1 y.1 else cmpZ x.2 y.2
theorem cmpZ_any (x y : Int) (w : World) : Calls Tryz.prog 89 #[.int .i64 x,.int .i64 y] w fun e w'=>e = .returned (.int .i64 (cmpZ x y))∧w' = w:=by
 have h1 : (x != x) = false:=by simp
 have h2 : (y != y) = false:=by simp
 by_cases c1 : x < y
 ·have HV:=Lib.hid (show cmpZ x y = -1 by unfold cmpZ; rw [if_pos c1])
  go_enter Tryz.func89,Tryz.ntmps89
  go_wp2
  go_returns
  exact ⟨by rw [HV.out]; try rfl,rfl⟩
 ·have c1' : decide (x < y) = false:=decide_eq_false c1
  by_cases c2 : y < x
  ·have HV:=Lib.hid (show cmpZ x y = 1 by unfold cmpZ; rw [if_neg c1,if_pos c2])
   go_enter Tryz.func89,Tryz.ntmps89
   go_wp2
   go_returns
   exact ⟨by rw [HV.out]; try rfl,rfl⟩
  ·have c2' : decide (y < x) = false:=decide_eq_false c2
   have HV:=Lib.hid (show cmpZ x y = 0 by unfold cmpZ; rw [if_neg c1,if_neg c2])
   go_enter Tryz.func89,Tryz.ntmps89
   go_wp2
   go_returns
   exact ⟨by rw [HV.out]; try rfl,rfl⟩
theorem orZ_any (a b : Int) (g : Nat) (w : World) (hg : Blk w g 3 #[.int .i64 a,.int .i64 b]) : Calls Tryz.prog 307 #[.slice (some ⟨g,0,none⟩) 2 2] w fun e w'=>e = .returned (.int .i64 (if a ≠ 0 then a else b))∧w = w':=by
 have g0 : w.cell? ⟨g,0,none⟩ = some (.int .i64 a):=hg.cell 0
 have g1 : w.cell? ⟨g,1,none⟩ = some (.int .i64 b):=hg.cell 1
 clear hg
 obtain ⟨z,hz⟩ : ∃ z,(if a ≠ 0 then a else b) = z:=⟨_,rfl⟩
 have HZ:=Lib.hid hz
 rw [hz]
 clear hz
 go_enter Tryz.func307,Tryz.ntmps307
 go_wp2_with fail
 go_loop [8] (fun i=>∃ k : Nat,k ≤ 2∧i = .int .i64 k∧(0 < k→a = 0)∧(1 < k→b = 0)) (fun i=>2 - (intOf i).toNat)
 case atStart=>exact ⟨0,by omega,rfl,fun h=>absurd h (by omega),fun h=>absurd h (by omega)⟩
 case round =>
  obtain ⟨k,hk,rfl,h0,h1⟩:=hrel
  have H0:=Lib.hid h0
  have H1:=Lib.hid h1
  clear h0 h1
  rcases (show k = 0 ∨ k = 1 ∨ k = 2 by omega) with rfl | rfl | rfl
  ·by_cases ca : a = 0
   ·have HA:=Lib.hid ca
    have ca' : (a != 0) = false:=by simp [ca]
    clear ca
    go_wp2_with fail
    go_round
    case rel=>exact ⟨1,by omega,rfl,fun _=>HA.out,fun h=>absurd h (by omega)⟩
    case measure=>simp [intOf]
   ·have ca' : (a != 0) = true:=by simp [ca]
    have HV:=Lib.hid (show z = a by rw [← HZ.out,if_pos ca])
    clear ca
    go_wp2_with fail
    go_returns
    exact ⟨by rw [HV.out]; try rfl,rfl⟩
  ·by_cases cb : b = 0
   ·have HB:=Lib.hid cb
    have HA:=Lib.hid (H0.out (by omega))
    have cb' : (b != 0) = false:=by simp [cb]
    clear cb
    go_wp2_with fail
    go_round
    case rel=>exact ⟨2,by omega,rfl,fun _=>HA.out,fun _=>HB.out⟩
    case measure=>simp [intOf]
   ·have cb' : (b != 0) = true:=by simp [cb]
    have HV:=Lib.hid (show z = b by rw [← HZ.out,if_neg (by simp [H0.out (by omega)])])
    clear cb
    go_wp2_with fail
    go_returns
    exact ⟨by rw [HV.out]; try rfl,rfl⟩
  ·have HV:=Lib.hid (show z = 0 by rw [← HZ.out,if_neg (by simp [H0.out (by omega)])]; exact H1.out (by omega))
   go_wp2_with fail
   go_returns
   exact ⟨by rw [HV.out]; try rfl,rfl⟩
def Grew (w u : World) : Prop:=∃ q os,u = Sort.grow (w.drewN q) os
theorem Grew.below {w u : World} (h : Grew w u) : Below w.heap.size w u:=by
 obtain ⟨q,os,rfl⟩:=h
 refine ⟨rfl,rfl,rfl,by simp [Sort.grow],fun k hk=>?_⟩
 show (w.heap ++ os)[k]? = _
 rw [Array.getElem?_append_left hk]
theorem Grew.refl (w : World) : Grew w w:=⟨0,#[],by simp [Sort.grow,World.drewN]⟩
theorem Grew.drew {w u : World} (h : Grew w u) : Grew w u.drew:=by
 obtain ⟨q,os,rfl⟩:=h
 exact ⟨q + 1,os,rfl⟩
theorem Grew.alloc {w u : World} (h : Grew w u) (o : Obj) : Grew w (u.alloc o):=by
 obtain ⟨q,os,rfl⟩:=h
 exact ⟨q,os ++ #[o],by rw [Sort.alloc_eq_grow,Sort.grow_grow]⟩
theorem Grew.trans {w u v : World} (h : Grew w u) (h2 : Grew u v) : Grew w v:=by
 obtain ⟨q,os,rfl⟩:=h
 obtain ⟨q2,os2,rfl⟩:=h2
 exact ⟨q + q2,os ++ os2,by simp [Sort.grow,World.drewN,Nat.add_assoc]⟩
set_option maxRecDepth 100000 in
set_option maxHeartbeats 2000000 in
theorem sortedC_any (x y : Int × Int) (w : World) : Calls Tryz.prog 306 #[.agg #[.int .i64 x.1,.int .i64 x.2],.agg #[.int .i64 y.1,.int .i64 y.2]] w fun e w'=>e = .returned (.int .i64 (cmpF x y))∧Grew w w':=by
 obtain ⟨x1,x2⟩:=x
 obtain ⟨y1,y2⟩:=y
 obtain ⟨N,hN⟩ : ∃ N,w.heap.size = N:=⟨_,rfl⟩
 have F0:=Fr.start w
 rw [hN] at F0
 have HF0:=Lib.hid F0
 have HG0:=Lib.hid (Grew.refl w)
 obtain ⟨a,ha⟩ : ∃ z,cmpZ x1 y1 = z:=⟨_,rfl⟩
 obtain ⟨b,hb⟩ : ∃ z,cmpZ x2 y2 = z:=⟨_,rfl⟩
 have HA:=Lib.hid ha
 have HB:=Lib.hid hb
 have HV:=Lib.hid (show cmpF (x1,x2) (y1,y2) = if a ≠ 0 then a else b by unfold cmpF; simp only [ha,hb])
 rw [HV.out]
 obtain ⟨z,hz⟩ : ∃ z,(if a ≠ 0 then a else b) = z:=⟨_,rfl⟩
 have HZ:=Lib.hid hz
 rw [hz]
 clear F0 ha hb hz
 dsimp only
 go_enter Tryz.func306,Tryz.ntmps306
 go_wp2_with fail
 refine wp_named ?_
 intro W hW
 have F1:=((HF0.out.alloc _ _).alloc _ _).of_eq hW
 have G1 : Grew w W:=by rw [hW]; exact ((HG0.out.alloc _).alloc _)
 simp only [World.size_alloc,hN] at F1 ⊢
 have HF1:=Lib.hid F1
 have HG1:=Lib.hid G1
 clear F1 G1 hW
 obtain ⟨g0,l0,f0⟩:=HF1.out.at_mem (.head _)
 obtain ⟨g1,l1,f1⟩:=HF1.out.at_mem (.tail _ (.head _))
 dsimp only at g0 l0 f0 g1 l1 f1
 have hstab : LStable ([leq (.pointer (some ⟨N,0,none⟩)),leq (.int .i64 x1),leq (.pointer (some ⟨N + 1,0,none⟩)),leq (.int .i64 y1),leq (.int .i64 a),leq (.pointer (some ⟨N,1,none⟩)),leq (.int .i64 x2),leq (.pointer (some ⟨N + 1,1,none⟩)),leq (.int .i64 y2),leq (.int .i64 b),lat 0 (pLit N 3 2 #[.int .i64 a,.int .i64 b]),leq (.int .i64 z),leq (.int .i64 z)]):=LStable.cons_ (leq_st _) (LStable.cons_ (leq_st _) (LStable.cons_ (leq_st _) (LStable.cons_ (leq_st _) (LStable.cons_ (leq_st _) (LStable.cons_ (leq_st _) (LStable.cons_ (leq_st _) (LStable.cons_ (leq_st _) (LStable.cons_ (leq_st _) (LStable.cons_ (leq_st _) (LStable.cons_ (lat_st pLit_st) (LStable.cons_ (leq_st _) (LStable.cons_ (leq_st _) (LStable.nil_)))))))))))))
 refine wp_region_relL ⟨[],[(0,0),(0,0),(0,0),(0,0),(0,0),(0,0),(0,0),(0,0),(0,0),(0,0),(0,0),(0,0),(0,0)]⟩ (fun _ u=>Grew W u) ([leq (.pointer (some ⟨N,0,none⟩)),leq (.int .i64 x1),leq (.pointer (some ⟨N + 1,0,none⟩)),leq (.int .i64 y1),leq (.int .i64 a),leq (.pointer (some ⟨N,1,none⟩)),leq (.int .i64 x2),leq (.pointer (some ⟨N + 1,1,none⟩)),leq (.int .i64 y2),leq (.int .i64 b),lat 0 (pLit N 3 2 #[.int .i64 a,.int .i64 b]),leq (.int .i64 z),leq (.int .i64 z)]) (by kernel_rfl) (by kernel_rfl) (by kernel_rfl) (by kernel_rfl) ?_ ?_ ?_
 ·exact (Grew.refl _).drew
 ·show LooksL _ _ _ _ _ _ 0 _
  refine ⟨?_,?_,?_,?_,?_,?_,?_,?_,?_,?_,?_,?_,?_,trivial⟩
  ·intro j hj ρ y u hS hc hf hg hfree hdep
   obtain rfl : j = 0:=by have:=hj _ rfl; dsimp only at this; omega
   rw [chain_next (C:=⟨[],[(0,0),(0,0),(0,0),(0,0),(0,0),(0,0),(0,0),(0,0),(0,0),(0,0),(0,0),(0,0),(0,0)]⟩) (i:=0) (j:=0) (by rfl)]
   have e2 : ρ (.tmp 2) = .pointer (some ⟨N,0,none⟩):=hfree 2 rfl
   refine ⟨fun _=>?_,wanted_plain rfl⟩
   clear hdep hfree hj
   go_simp
   exact ⟨rfl,hS,KeepL.below (Below.refl _ _) _ _ 0 hstab⟩
  ·intro j hj ρ y u hS hc hf hg hfree hdep
   obtain rfl : j = 0:=by have:=hj _ rfl; dsimp only at this; omega
   rw [chain_next (C:=⟨[],[(0,0),(0,0),(0,0),(0,0),(0,0),(0,0),(0,0),(0,0),(0,0),(0,0),(0,0),(0,0),(0,0)]⟩) (i:=1) (j:=0) (by rfl)]
   have e5 : ρ (.tmp 5) = .pointer (some ⟨N,0,none⟩):=(hdep 0 _ 5 rfl rfl rfl).1
   refine ⟨fun _=>?_,wanted_plain rfl⟩
   clear hdep hfree hj
   have c0 : u.cell? ⟨N,0,none⟩ = some (.int .i64 x1):=(hS.below.cell (p:=⟨N,0,none⟩) l1).trans (g1 0)
   go_simp
   exact ⟨rfl,hS,KeepL.below (Below.refl _ _) _ _ 0 hstab⟩
  ·intro j hj ρ y u hS hc hf hg hfree hdep
   obtain rfl : j = 0:=by have:=hj _ rfl; dsimp only at this; omega
   rw [chain_next (C:=⟨[],[(0,0),(0,0),(0,0),(0,0),(0,0),(0,0),(0,0),(0,0),(0,0),(0,0),(0,0),(0,0),(0,0)]⟩) (i:=2) (j:=0) (by rfl)]
   have e3 : ρ (.tmp 3) = .pointer (some ⟨N + 1,0,none⟩):=hfree 3 rfl
   refine ⟨fun _=>?_,wanted_plain rfl⟩
   clear hdep hfree hj
   go_simp
   exact ⟨rfl,hS,KeepL.below (Below.refl _ _) _ _ 0 hstab⟩
  ·intro j hj ρ y u hS hc hf hg hfree hdep
   obtain rfl : j = 0:=by have:=hj _ rfl; dsimp only at this; omega
   rw [chain_next (C:=⟨[],[(0,0),(0,0),(0,0),(0,0),(0,0),(0,0),(0,0),(0,0),(0,0),(0,0),(0,0),(0,0),(0,0)]⟩) (i:=3) (j:=0) (by rfl)]
   have e7 : ρ (.tmp 7) = .pointer (some ⟨N + 1,0,none⟩):=(hdep 2 _ 7 rfl rfl rfl).1
   refine ⟨fun _=>?_,wanted_plain rfl⟩
   clear hdep hfree hj
   have c0 : u.cell? ⟨N + 1,0,none⟩ = some (.int .i64 y1):=(hS.below.cell (p:=⟨N + 1,0,none⟩) l0).trans (g0 0)
   go_simp
   exact ⟨rfl,hS,KeepL.below (Below.refl _ _) _ _ 0 hstab⟩
  ·intro j hj ρ y u hS hc hf hg hfree hdep
   obtain rfl : j = 0:=by have:=hj _ rfl; dsimp only at this; omega
   rw [chain_next (C:=⟨[],[(0,0),(0,0),(0,0),(0,0),(0,0),(0,0),(0,0),(0,0),(0,0),(0,0),(0,0),(0,0),(0,0)]⟩) (i:=4) (j:=0) (by rfl)]
   have e6 : ρ (.tmp 6) = .int .i64 x1:=(hdep 1 _ 6 rfl rfl rfl).1
   have e8 : ρ (.tmp 8) = .int .i64 y1:=(hdep 3 _ 8 rfl rfl rfl).1
   refine ⟨fun _=>?_,wanted_plain rfl⟩
   clear hdep hfree hj
   go_simp
   refine good_call (cmpZ_any x1 y1 u) ?_
   rintro e w' ⟨rfl,rfl⟩
   exact ⟨_,rfl,by rw [HA.out]; rfl,hS,KeepL.below (Below.refl _ _) _ _ 0 hstab⟩
  ·intro j hj ρ y u hS hc hf hg hfree hdep
   obtain rfl : j = 0:=by have:=hj _ rfl; dsimp only at this; omega
   rw [chain_next (C:=⟨[],[(0,0),(0,0),(0,0),(0,0),(0,0),(0,0),(0,0),(0,0),(0,0),(0,0),(0,0),(0,0),(0,0)]⟩) (i:=5) (j:=0) (by rfl)]
   have e2 : ρ (.tmp 2) = .pointer (some ⟨N,0,none⟩):=hfree 2 rfl
   refine ⟨fun _=>?_,wanted_plain rfl⟩
   clear hdep hfree hj
   go_simp
   exact ⟨rfl,hS,KeepL.below (Below.refl _ _) _ _ 0 hstab⟩
  ·intro j hj ρ y u hS hc hf hg hfree hdep
   obtain rfl : j = 0:=by have:=hj _ rfl; dsimp only at this; omega
   rw [chain_next (C:=⟨[],[(0,0),(0,0),(0,0),(0,0),(0,0),(0,0),(0,0),(0,0),(0,0),(0,0),(0,0),(0,0),(0,0)]⟩) (i:=6) (j:=0) (by rfl)]
   have e10 : ρ (.tmp 10) = .pointer (some ⟨N,1,none⟩):=(hdep 5 _ 10 rfl rfl rfl).1
   refine ⟨fun _=>?_,wanted_plain rfl⟩
   clear hdep hfree hj
   have c0 : u.cell? ⟨N,1,none⟩ = some (.int .i64 x2):=(hS.below.cell (p:=⟨N,1,none⟩) l1).trans (g1 1)
   go_simp
   exact ⟨rfl,hS,KeepL.below (Below.refl _ _) _ _ 0 hstab⟩
  ·intro j hj ρ y u hS hc hf hg hfree hdep
   obtain rfl : j = 0:=by have:=hj _ rfl; dsimp only at this; omega
   rw [chain_next (C:=⟨[],[(0,0),(0,0),(0,0),(0,0),(0,0),(0,0),(0,0),(0,0),(0,0),(0,0),(0,0),(0,0),(0,0)]⟩) (i:=7) (j:=0) (by rfl)]
   have e3 : ρ (.tmp 3) = .pointer (some ⟨N + 1,0,none⟩):=hfree 3 rfl
   refine ⟨fun _=>?_,wanted_plain rfl⟩
   clear hdep hfree hj
   go_simp
   exact ⟨rfl,hS,KeepL.below (Below.refl _ _) _ _ 0 hstab⟩
  ·intro j hj ρ y u hS hc hf hg hfree hdep
   obtain rfl : j = 0:=by have:=hj _ rfl; dsimp only at this; omega
   rw [chain_next (C:=⟨[],[(0,0),(0,0),(0,0),(0,0),(0,0),(0,0),(0,0),(0,0),(0,0),(0,0),(0,0),(0,0),(0,0)]⟩) (i:=8) (j:=0) (by rfl)]
   have e12 : ρ (.tmp 12) = .pointer (some ⟨N + 1,1,none⟩):=(hdep 7 _ 12 rfl rfl rfl).1
   refine ⟨fun _=>?_,wanted_plain rfl⟩
   clear hdep hfree hj
   have c0 : u.cell? ⟨N + 1,1,none⟩ = some (.int .i64 y2):=(hS.below.cell (p:=⟨N + 1,1,none⟩) l0).trans (g0 1)
   go_simp
   exact ⟨rfl,hS,KeepL.below (Below.refl _ _) _ _ 0 hstab⟩
  ·intro j hj ρ y u hS hc hf hg hfree hdep
   obtain rfl : j = 0:=by have:=hj _ rfl; dsimp only at this; omega
   rw [chain_next (C:=⟨[],[(0,0),(0,0),(0,0),(0,0),(0,0),(0,0),(0,0),(0,0),(0,0),(0,0),(0,0),(0,0),(0,0)]⟩) (i:=9) (j:=0) (by rfl)]
   have e11 : ρ (.tmp 11) = .int .i64 x2:=(hdep 6 _ 11 rfl rfl rfl).1
   have e13 : ρ (.tmp 13) = .int .i64 y2:=(hdep 8 _ 13 rfl rfl rfl).1
   refine ⟨fun _=>?_,wanted_plain rfl⟩
   clear hdep hfree hj
   go_simp
   refine good_call (cmpZ_any x2 y2 u) ?_
   rintro e w' ⟨rfl,rfl⟩
   exact ⟨_,rfl,by rw [HB.out]; rfl,hS,KeepL.below (Below.refl _ _) _ _ 0 hstab⟩
  ·intro j hj ρ y u hS hc hf hg hfree hdep
   obtain rfl : j = 0:=by have:=hj _ rfl; dsimp only at this; omega
   rw [chain_next (C:=⟨[],[(0,0),(0,0),(0,0),(0,0),(0,0),(0,0),(0,0),(0,0),(0,0),(0,0),(0,0),(0,0),(0,0)]⟩) (i:=10) (j:=0) (by rfl)]
   have e9 : ρ (.tmp 9) = .int .i64 a:=(hdep 4 _ 9 rfl rfl rfl).1
   have e14 : ρ (.tmp 14) = .int .i64 b:=(hdep 9 _ 14 rfl rfl rfl).1
   refine ⟨fun _=>?_,wanted_plain rfl⟩
   clear hdep hfree hj
   go_simp
   exact ⟨(fun _=>⟨u.heap.size,rfl,by have:=hS.below.size; omega,Blk.new _ _ _⟩),hS.alloc _,KeepL.below ((Below.refl _ _).alloc (Nat.le_refl _) _) _ _ 0 hstab⟩
  ·intro j hj ρ y u hS hc hf hg hfree hdep
   obtain rfl : j = 0:=by have:=hj _ rfl; dsimp only at this; omega
   rw [chain_next (C:=⟨[],[(0,0),(0,0),(0,0),(0,0),(0,0),(0,0),(0,0),(0,0),(0,0),(0,0),(0,0),(0,0),(0,0)]⟩) (i:=11) (j:=0) (by rfl)]
   have r15:=(hdep 10 _ 15 rfl rfl rfl).1
   refine ⟨fun _=>?_,wanted_plain rfl⟩
   clear hdep hfree hj
   obtain ⟨g,e15,_,hB15⟩:=r15 rfl
   go_simp
   refine good_call (orZ_any a b g u hB15) ?_
   rintro e w' ⟨rfl,rfl⟩
   exact ⟨_,rfl,by rw [HZ.out]; rfl,hS,KeepL.below (Below.refl _ _) _ _ 0 hstab⟩
  ·intro j hj ρ y u hS hc hf hg hfree hdep
   obtain rfl : j = 0:=by have:=hj _ rfl; dsimp only at this; omega
   rw [chain_next (C:=⟨[],[(0,0),(0,0),(0,0),(0,0),(0,0),(0,0),(0,0),(0,0),(0,0),(0,0),(0,0),(0,0),(0,0)]⟩) (i:=12) (j:=0) (by rfl)]
   have e16 : ρ (.tmp 16) = .int .i64 z:=(hdep 11 _ 16 rfl rfl rfl).1
   refine ⟨fun _=>?_,wanted_plain rfl⟩
   clear hdep hfree hj
   go_simp
   exact ⟨rfl,hS,KeepL.below (Below.refl _ _) _ _ 0 hstab⟩
 intro u hS
 rintro _ rfl _ rfl _ rfl _ rfl _ rfl _ rfl _ rfl _ rfl _ rfl _ rfl _ r_15 _ rfl _ rfl
 simp only [RegEnd,Act.put,List.setIfInBounds_toArray,List.set_cons_zero,List.set_cons_succ]
 go_wp2_with fail
 go_returns
 exact ⟨rfl,HG1.out.trans hS⟩
set_option maxRecDepth 100000 in
set_option maxHeartbeats 2000000 in
theorem fieldsC_any (x y : Int × Int) (w : World) : Calls Tryz.prog 315 #[.agg #[.int .i64 x.1,.int .i64 x.2],.agg #[.int .i64 y.1,.int .i64 y.2]] w fun e w'=>e = .returned (.int .i64 (cmpF x y))∧Grew w w':=by
 obtain ⟨x1,x2⟩:=x
 obtain ⟨y1,y2⟩:=y
 obtain ⟨N,hN⟩ : ∃ N,w.heap.size = N:=⟨_,rfl⟩
 have F0:=Fr.start w
 rw [hN] at F0
 have HF0:=Lib.hid F0
 have HG0:=Lib.hid (Grew.refl w)
 obtain ⟨a,ha⟩ : ∃ z,cmpZ x1 y1 = z:=⟨_,rfl⟩
 obtain ⟨b,hb⟩ : ∃ z,cmpZ x2 y2 = z:=⟨_,rfl⟩
 have HA:=Lib.hid ha
 have HB:=Lib.hid hb
 have HV:=Lib.hid (show cmpF (x1,x2) (y1,y2) = if a ≠ 0 then a else b by unfold cmpF; simp only [ha,hb])
 rw [HV.out]
 obtain ⟨z,hz⟩ : ∃ z,(if a ≠ 0 then a else b) = z:=⟨_,rfl⟩
 have HZ:=Lib.hid hz
 rw [hz]
 clear F0 ha hb hz
 dsimp only
 go_enter Tryz.func315,Tryz.ntmps315
 go_wp2_with fail
 refine wp_named ?_
 intro W hW
 have F1:=((HF0.out.alloc _ _).alloc _ _).of_eq hW
 have G1 : Grew w W:=by rw [hW]; exact ((HG0.out.alloc _).alloc _)
 simp only [World.size_alloc,hN] at F1 ⊢
 have HF1:=Lib.hid F1
 have HG1:=Lib.hid G1
 clear F1 G1 hW
 obtain ⟨g0,l0,f0⟩:=HF1.out.at_mem (.head _)
 obtain ⟨g1,l1,f1⟩:=HF1.out.at_mem (.tail _ (.head _))
 dsimp only at g0 l0 f0 g1 l1 f1
 have hstab : LStable ([leq (.pointer (some ⟨N,0,none⟩)),leq (.int .i64 x1),leq (.pointer (some ⟨N + 1,0,none⟩)),leq (.int .i64 y1),leq (.int .i64 a),leq (.pointer (some ⟨N,1,none⟩)),leq (.int .i64 x2),leq (.pointer (some ⟨N + 1,1,none⟩)),leq (.int .i64 y2),leq (.int .i64 b),lat 0 (pLit N 3 2 #[.int .i64 a,.int .i64 b]),leq (.int .i64 z),leq (.int .i64 z)]):=LStable.cons_ (leq_st _) (LStable.cons_ (leq_st _) (LStable.cons_ (leq_st _) (LStable.cons_ (leq_st _) (LStable.cons_ (leq_st _) (LStable.cons_ (leq_st _) (LStable.cons_ (leq_st _) (LStable.cons_ (leq_st _) (LStable.cons_ (leq_st _) (LStable.cons_ (leq_st _) (LStable.cons_ (lat_st pLit_st) (LStable.cons_ (leq_st _) (LStable.cons_ (leq_st _) (LStable.nil_)))))))))))))
 refine wp_region_relL ⟨[],[(0,0),(0,0),(0,0),(0,0),(0,0),(0,0),(0,0),(0,0),(0,0),(0,0),(0,0),(0,0),(0,0)]⟩ (fun _ u=>Grew W u) ([leq (.pointer (some ⟨N,0,none⟩)),leq (.int .i64 x1),leq (.pointer (some ⟨N + 1,0,none⟩)),leq (.int .i64 y1),leq (.int .i64 a),leq (.pointer (some ⟨N,1,none⟩)),leq (.int .i64 x2),leq (.pointer (some ⟨N + 1,1,none⟩)),leq (.int .i64 y2),leq (.int .i64 b),lat 0 (pLit N 3 2 #[.int .i64 a,.int .i64 b]),leq (.int .i64 z),leq (.int .i64 z)]) (by kernel_rfl) (by kernel_rfl) (by kernel_rfl) (by kernel_rfl) ?_ ?_ ?_
 ·exact (Grew.refl _).drew
 ·show LooksL _ _ _ _ _ _ 0 _
  refine ⟨?_,?_,?_,?_,?_,?_,?_,?_,?_,?_,?_,?_,?_,trivial⟩
  ·intro j hj ρ y u hS hc hf hg hfree hdep
   obtain rfl : j = 0:=by have:=hj _ rfl; dsimp only at this; omega
   rw [chain_next (C:=⟨[],[(0,0),(0,0),(0,0),(0,0),(0,0),(0,0),(0,0),(0,0),(0,0),(0,0),(0,0),(0,0),(0,0)]⟩) (i:=0) (j:=0) (by rfl)]
   have e2 : ρ (.tmp 2) = .pointer (some ⟨N,0,none⟩):=hfree 2 rfl
   refine ⟨fun _=>?_,wanted_plain rfl⟩
   clear hdep hfree hj
   go_simp
   exact ⟨rfl,hS,KeepL.below (Below.refl _ _) _ _ 0 hstab⟩
  ·intro j hj ρ y u hS hc hf hg hfree hdep
   obtain rfl : j = 0:=by have:=hj _ rfl; dsimp only at this; omega
   rw [chain_next (C:=⟨[],[(0,0),(0,0),(0,0),(0,0),(0,0),(0,0),(0,0),(0,0),(0,0),(0,0),(0,0),(0,0),(0,0)]⟩) (i:=1) (j:=0) (by rfl)]
   have e5 : ρ (.tmp 5) = .pointer (some ⟨N,0,none⟩):=(hdep 0 _ 5 rfl rfl rfl).1
   refine ⟨fun _=>?_,wanted_plain rfl⟩
   clear hdep hfree hj
   have c0 : u.cell? ⟨N,0,none⟩ = some (.int .i64 x1):=(hS.below.cell (p:=⟨N,0,none⟩) l1).trans (g1 0)
   go_simp
   exact ⟨rfl,hS,KeepL.below (Below.refl _ _) _ _ 0 hstab⟩
  ·intro j hj ρ y u hS hc hf hg hfree hdep
   obtain rfl : j = 0:=by have:=hj _ rfl; dsimp only at this; omega
   rw [chain_next (C:=⟨[],[(0,0),(0,0),(0,0),(0,0),(0,0),(0,0),(0,0),(0,0),(0,0),(0,0),(0,0),(0,0),(0,0)]⟩) (i:=2) (j:=0) (by rfl)]
   have e3 : ρ (.tmp 3) = .pointer (some ⟨N + 1,0,none⟩):=hfree 3 rfl
   refine ⟨fun _=>?_,wanted_plain rfl⟩
   clear hdep hfree hj
   go_simp
   exact ⟨rfl,hS,KeepL.below (Below.refl _ _) _ _ 0 hstab⟩
  ·intro j hj ρ y u hS hc hf hg hfree hdep
   obtain rfl : j = 0:=by have:=hj _ rfl; dsimp only at this; omega
   rw [chain_next (C:=⟨[],[(0,0),(0,0),(0,0),(0,0),(0,0),(0,0),(0,0),(0,0),(0,0),(0,0),(0,0),(0,0),(0,0)]⟩) (i:=3) (j:=0) (by rfl)]
   have e7 : ρ (.tmp 7) = .pointer (some ⟨N + 1,0,none⟩):=(hdep 2 _ 7 rfl rfl rfl).1
   refine ⟨fun _=>?_,wanted_plain rfl⟩
   clear hdep hfree hj
   have c0 : u.cell? ⟨N + 1,0,none⟩ = some (.int .i64 y1):=(hS.below.cell (p:=⟨N + 1,0,none⟩) l0).trans (g0 0)
   go_simp
   exact ⟨rfl,hS,KeepL.below (Below.refl _ _) _ _ 0 hstab⟩
  ·intro j hj ρ y u hS hc hf hg hfree hdep
   obtain rfl : j = 0:=by have:=hj _ rfl; dsimp only at this; omega
   rw [chain_next (C:=⟨[],[(0,0),(0,0),(0,0),(0,0),(0,0),(0,0),(0,0),(0,0),(0,0),(0,0),(0,0),(0,0),(0,0)]⟩) (i:=4) (j:=0) (by rfl)]
   have e6 : ρ (.tmp 6) = .int .i64 x1:=(hdep 1 _ 6 rfl rfl rfl).1
   have e8 : ρ (.tmp 8) = .int .i64 y1:=(hdep 3 _ 8 rfl rfl rfl).1
   refine ⟨fun _=>?_,wanted_plain rfl⟩
   clear hdep hfree hj
   go_simp
   refine good_call (cmpZ_any x1 y1 u) ?_
   rintro e w' ⟨rfl,rfl⟩
   exact ⟨_,rfl,by rw [HA.out]; rfl,hS,KeepL.below (Below.refl _ _) _ _ 0 hstab⟩
  ·intro j hj ρ y u hS hc hf hg hfree hdep
   obtain rfl : j = 0:=by have:=hj _ rfl; dsimp only at this; omega
   rw [chain_next (C:=⟨[],[(0,0),(0,0),(0,0),(0,0),(0,0),(0,0),(0,0),(0,0),(0,0),(0,0),(0,0),(0,0),(0,0)]⟩) (i:=5) (j:=0) (by rfl)]
   have e2 : ρ (.tmp 2) = .pointer (some ⟨N,0,none⟩):=hfree 2 rfl
   refine ⟨fun _=>?_,wanted_plain rfl⟩
   clear hdep hfree hj
   go_simp
   exact ⟨rfl,hS,KeepL.below (Below.refl _ _) _ _ 0 hstab⟩
  ·intro j hj ρ y u hS hc hf hg hfree hdep
   obtain rfl : j = 0:=by have:=hj _ rfl; dsimp only at this; omega
   rw [chain_next (C:=⟨[],[(0,0),(0,0),(0,0),(0,0),(0,0),(0,0),(0,0),(0,0),(0,0),(0,0),(0,0),(0,0),(0,0)]⟩) (i:=6) (j:=0) (by rfl)]
   have e10 : ρ (.tmp 10) = .pointer (some ⟨N,1,none⟩):=(hdep 5 _ 10 rfl rfl rfl).1
   refine ⟨fun _=>?_,wanted_plain rfl⟩
   clear hdep hfree hj
   have c0 : u.cell? ⟨N,1,none⟩ = some (.int .i64 x2):=(hS.below.cell (p:=⟨N,1,none⟩) l1).trans (g1 1)
   go_simp
   exact ⟨rfl,hS,KeepL.below (Below.refl _ _) _ _ 0 hstab⟩
  ·intro j hj ρ y u hS hc hf hg hfree hdep
   obtain rfl : j = 0:=by have:=hj _ rfl; dsimp only at this; omega
   rw [chain_next (C:=⟨[],[(0,0),(0,0),(0,0),(0,0),(0,0),(0,0),(0,0),(0,0),(0,0),(0,0),(0,0),(0,0),(0,0)]⟩) (i:=7) (j:=0) (by rfl)]
   have e3 : ρ (.tmp 3) = .pointer (some ⟨N + 1,0,none⟩):=hfree 3 rfl
   refine ⟨fun _=>?_,wanted_plain rfl⟩
   clear hdep hfree hj
   go_simp
   exact ⟨rfl,hS,KeepL.below (Below.refl _ _) _ _ 0 hstab⟩
  ·intro j hj ρ y u hS hc hf hg hfree hdep
   obtain rfl : j = 0:=by have:=hj _ rfl; dsimp only at this; omega
   rw [chain_next (C:=⟨[],[(0,0),(0,0),(0,0),(0,0),(0,0),(0,0),(0,0),(0,0),(0,0),(0,0),(0,0),(0,0),(0,0)]⟩) (i:=8) (j:=0) (by rfl)]
   have e12 : ρ (.tmp 12) = .pointer (some ⟨N + 1,1,none⟩):=(hdep 7 _ 12 rfl rfl rfl).1
   refine ⟨fun _=>?_,wanted_plain rfl⟩
   clear hdep hfree hj
   have c0 : u.cell? ⟨N + 1,1,none⟩ = some (.int .i64 y2):=(hS.below.cell (p:=⟨N + 1,1,none⟩) l0).trans (g0 1)
   go_simp
   exact ⟨rfl,hS,KeepL.below (Below.refl _ _) _ _ 0 hstab⟩
  ·intro j hj ρ y u hS hc hf hg hfree hdep
   obtain rfl : j = 0:=by have:=hj _ rfl; dsimp only at this; omega
   rw [chain_next (C:=⟨[],[(0,0),(0,0),(0,0),(0,0),(0,0),(0,0),(0,0),(0,0),(0,0),(0,0),(0,0),(0,0),(0,0)]⟩) (i:=9) (j:=0) (by rfl)]
   have e11 : ρ (.tmp 11) = .int .i64 x2:=(hdep 6 _ 11 rfl rfl rfl).1
   have e13 : ρ (.tmp 13) = .int .i64 y2:=(hdep 8 _ 13 rfl rfl rfl).1
   refine ⟨fun _=>?_,wanted_plain rfl⟩
   clear hdep hfree hj
   go_simp
   refine good_call (cmpZ_any x2 y2 u) ?_
   rintro e w' ⟨rfl,rfl⟩
   exact ⟨_,rfl,by rw [HB.out]; rfl,hS,KeepL.below (Below.refl _ _) _ _ 0 hstab⟩
  ·intro j hj ρ y u hS hc hf hg hfree hdep
   obtain rfl : j = 0:=by have:=hj _ rfl; dsimp only at this; omega
   rw [chain_next (C:=⟨[],[(0,0),(0,0),(0,0),(0,0),(0,0),(0,0),(0,0),(0,0),(0,0),(0,0),(0,0),(0,0),(0,0)]⟩) (i:=10) (j:=0) (by rfl)]
   have e9 : ρ (.tmp 9) = .int .i64 a:=(hdep 4 _ 9 rfl rfl rfl).1
   have e14 : ρ (.tmp 14) = .int .i64 b:=(hdep 9 _ 14 rfl rfl rfl).1
   refine ⟨fun _=>?_,wanted_plain rfl⟩
   clear hdep hfree hj
   go_simp
   exact ⟨(fun _=>⟨u.heap.size,rfl,by have:=hS.below.size; omega,Blk.new _ _ _⟩),hS.alloc _,KeepL.below ((Below.refl _ _).alloc (Nat.le_refl _) _) _ _ 0 hstab⟩
  ·intro j hj ρ y u hS hc hf hg hfree hdep
   obtain rfl : j = 0:=by have:=hj _ rfl; dsimp only at this; omega
   rw [chain_next (C:=⟨[],[(0,0),(0,0),(0,0),(0,0),(0,0),(0,0),(0,0),(0,0),(0,0),(0,0),(0,0),(0,0),(0,0)]⟩) (i:=11) (j:=0) (by rfl)]
   have r15:=(hdep 10 _ 15 rfl rfl rfl).1
   refine ⟨fun _=>?_,wanted_plain rfl⟩
   clear hdep hfree hj
   obtain ⟨g,e15,_,hB15⟩:=r15 rfl
   go_simp
   refine good_call (orZ_any a b g u hB15) ?_
   rintro e w' ⟨rfl,rfl⟩
   exact ⟨_,rfl,by rw [HZ.out]; rfl,hS,KeepL.below (Below.refl _ _) _ _ 0 hstab⟩
  ·intro j hj ρ y u hS hc hf hg hfree hdep
   obtain rfl : j = 0:=by have:=hj _ rfl; dsimp only at this; omega
   rw [chain_next (C:=⟨[],[(0,0),(0,0),(0,0),(0,0),(0,0),(0,0),(0,0),(0,0),(0,0),(0,0),(0,0),(0,0),(0,0)]⟩) (i:=12) (j:=0) (by rfl)]
   have e16 : ρ (.tmp 16) = .int .i64 z:=(hdep 11 _ 16 rfl rfl rfl).1
   refine ⟨fun _=>?_,wanted_plain rfl⟩
   clear hdep hfree hj
   go_simp
   exact ⟨rfl,hS,KeepL.below (Below.refl _ _) _ _ 0 hstab⟩
 intro u hS
 rintro _ rfl _ rfl _ rfl _ rfl _ rfl _ rfl _ rfl _ rfl _ rfl _ rfl _ r_15 _ rfl _ rfl
 simp only [RegEnd,Act.put,List.setIfInBounds_toArray,List.set_cons_zero,List.set_cons_succ]
 go_wp2_with fail
 go_returns
 exact ⟨rfl,HG1.out.trans hS⟩
theorem ltF (x y : Int × Int) : ltOf cmpF x y = decide (x.1 < y.1 ∨ (x.1 = y.1∧x.2 < y.2)):=by
 unfold ltOf cmpF cmpZ
 by_cases h1 : x.1 < y.1
 ·simp [h1]
 ·by_cases h2 : y.1 < x.1
  ·simp [h1,h2]; omega
  ·have h3 : x.1 = y.1:=by omega
   by_cases h4 : x.2 < y.2
   ·simp [h3,h4]
   ·by_cases h5 : y.2 < x.2 <;> simp [h3,h4,h5]
theorem swoF : Sort.SWO (ltOf cmpF) where
 irrefl x:=by rw [ltF]; simp
 trans x y z h1 h2:=by rw [ltF] at *; simp at *; omega
 ntrans x y z h1 h2:=by rw [ltF] at *; simp at *; omega
end Go.Proofs.YtejkhflkeoihlaaGreat
