/- The texts of functions, as they are evaluated: printed by a program. -/
import Derived.Test.YtpmajhocoepajaaGreatDoorAmT3
set_option linter.unusedVariables false
set_option maxRecDepth 100000
namespace Go.Am
noncomputable def c3 : TT → FnC := fnC 16 ((seqC (purN d0 (fun E => some (.bool false)) <| skipC)
 (seqC (seqC (callN d34 4 (fun E => []) <| purN d35 (fun E => uNot (t34 E)) <| purN d36 (fun E => some (t35 E)) <| purN d37 (fun E => oPick (t36 E) (.bool true) (.bool false)) <| purN d38 (fun E => some (t37 E)) <| purN d39 (fun E => oPick (t38 E) (.bool true) (.bool false)) <| purN d40 (fun E => some (t39 E)) <| purN d41 (fun E => oPick (t40 E) (.bool true) (.bool false)) <| purN d42 (fun E => some (t41 E)) <| purN d43 (fun E => oPick (t42 E) (.bool true) (.bool false)) <| purN d44 (fun E => some (t43 E)) <| purN d45 (fun E => oPick (t44 E) (.bool true) (.bool false)) <| purN d46 (fun E => some (t45 E)) <| purN d47 (fun E => oPick (t46 E) (.bool true) (.bool false)) <| purN d48 (fun E => some (t47 E)) <| purN d49 (fun E => oPick (t48 E) (.bool true) (.bool false)) <| purN d50 (fun E => some (t49 E)) <| purN d51 (fun E => oPick (t50 E) (.bool true) (.bool false)) <| purN d52 (fun E => some (t51 E)) <| purN d53 (fun E => oPick (t52 E) (.bool true) (.bool false)) <| purN d54 (fun E => some (t53 E)) <| purN d55 (fun E => oPick (t54 E) (.bool true) (.bool false)) <| skipC)
 (condF t55
 (seqC (purN d0 (fun E => some (.bool false)) <| skipC)
 retC)
 skipC))
 (seqC (callN d57 6 (fun E => []) <| callN d58 5 (fun E => [(t57 E)]) <| purN d56 (fun E => some (t58 E)) <| purN d59 (fun E => oExt 0 (t56 E)) <| purN d60 (fun E => oExt 1 (t56 E)) <| purN d1 (fun E => some (t59 E)) <| purN d2 (fun E => some (t60 E)) <| skipC)
 (seqC (purN d62 (fun E => some (t1 E)) <| callN d63 7 (fun E => [(t62 E), .nils, (.int .i64 (.ofNat 0)), (.int .i64 (.ofNat 5))]) <| purN d61 (fun E => some (t63 E)) <| purN d64 (fun E => oExt 0 (t61 E)) <| purN d65 (fun E => oExt 1 (t61 E)) <| alN d3 (fun E => aNew 38 [(.int .i64 (.ofNat 0)), (.str 0 0), (.int .u8 (.ofNat 0)), .nils, .nils, (.int .i64 (.ofNat 0)), .nils] []) <| efN dn (fun E H => oSt 7 (t3 E) (t64 E) H) <| purN d4 (fun E => some (t65 E)) <| skipC)
 (seqC (purN d67 (fun E => some (t1 E)) <| purN d68 (fun E => oFad 0 (t3 E)) <| rdN d69 (fun E H => oLdN 5 (t68 E) H) <| callN d70 8 (fun E => [(t67 E), (t69 E), (.int .i64 (.ofNat 3)), (.str 1 117), (.int .i64 (.ofNat 2)), (.int .i64 (.ofNat 6))]) <| purN d66 (fun E => some (t70 E)) <| purN d71 (fun E => oExt 0 (t66 E)) <| purN d72 (fun E => oExt 1 (t66 E)) <| alN d5 (fun E => aNew 38 [(.int .i64 (.ofNat 0)), (.str 0 0), (.int .u8 (.ofNat 0)), .nils, .nils, (.int .i64 (.ofNat 0)), .nils] []) <| efN dn (fun E H => oSt 7 (t5 E) (t71 E) H) <| purN d6 (fun E => some (t72 E)) <| skipC)
 (seqC (purN d74 (fun E => some (t1 E)) <| purN d75 (fun E => oFad 0 (t3 E)) <| rdN d76 (fun E H => oLdN 5 (t75 E) H) <| callN d77 8 (fun E => [(t74 E), (t76 E), (.int .i64 (.ofNat 2)), (.str 1 101), (.int .i64 (.ofNat 2)), (.int .i64 (.ofNat 6))]) <| purN d73 (fun E => some (t77 E)) <| purN d78 (fun E => oExt 0 (t73 E)) <| purN d79 (fun E => oExt 1 (t73 E)) <| alN d7 (fun E => aNew 38 [(.int .i64 (.ofNat 0)), (.str 0 0), (.int .u8 (.ofNat 0)), .nils, .nils, (.int .i64 (.ofNat 0)), .nils] []) <| efN dn (fun E H => oSt 7 (t7 E) (t78 E) H) <| purN d8 (fun E => some (t79 E)) <| skipC)
 (seqC (purN d81 (fun E => some (t1 E)) <| purN d82 (fun E => oFad 0 (t3 E)) <| rdN d83 (fun E H => oLdN 5 (t82 E) H) <| callN d84 8 (fun E => [(t81 E), (t83 E), (.int .i64 (.ofNat 2)), (.str 1 117), (.int .i64 (.ofNat 1)), (.int .i64 (.ofNat 6))]) <| purN d80 (fun E => some (t84 E)) <| purN d85 (fun E => oExt 0 (t80 E)) <| purN d86 (fun E => oExt 1 (t80 E)) <| alN d9 (fun E => aNew 38 [(.int .i64 (.ofNat 0)), (.str 0 0), (.int .u8 (.ofNat 0)), .nils, .nils, (.int .i64 (.ofNat 0)), .nils] []) <| efN dn (fun E H => oSt 7 (t9 E) (t85 E) H) <| purN d10 (fun E => some (t86 E)) <| skipC)
 (seqC (purN d88 (fun E => some (t1 E)) <| purN d89 (fun E => oFad 0 (t3 E)) <| rdN d90 (fun E H => oLdN 5 (t89 E) H) <| callN d91 8 (fun E => [(t88 E), (t90 E), (.int .i64 (.ofNat 2)), (.str 1 117), (.int .i64 (.ofNat 2)), (.int .i64 (.ofNat 4))]) <| purN d87 (fun E => some (t91 E)) <| purN d92 (fun E => oExt 0 (t87 E)) <| purN d93 (fun E => oExt 1 (t87 E)) <| alN d11 (fun E => aNew 38 [(.int .i64 (.ofNat 0)), (.str 0 0), (.int .u8 (.ofNat 0)), .nils, .nils, (.int .i64 (.ofNat 0)), .nils] []) <| efN dn (fun E H => oSt 7 (t11 E) (t92 E) H) <| purN d12 (fun E => some (t93 E)) <| skipC)
 (seqC (purN d95 (fun E => some (t1 E)) <| callN d96 7 (fun E => [(t95 E), .nils, (.int .i64 (.negSucc 0)), (.int .i64 (.ofNat 0))]) <| purN d94 (fun E => some (t96 E)) <| purN d97 (fun E => oExt 0 (t94 E)) <| purN d98 (fun E => oExt 1 (t94 E)) <| alN d13 (fun E => aNew 38 [(.int .i64 (.ofNat 0)), (.str 0 0), (.int .u8 (.ofNat 0)), .nils, .nils, (.int .i64 (.ofNat 0)), .nils] []) <| efN dn (fun E H => oSt 7 (t13 E) (t97 E) H) <| purN d14 (fun E => some (t98 E)) <| skipC)
 (seqC (purN d100 (fun E => some (t1 E)) <| callN d101 7 (fun E => [(t100 E), .nils, (.int .i64 (.ofNat 2147483647)), (.int .i64 (.ofNat 0))]) <| purN d99 (fun E => some (t101 E)) <| purN d102 (fun E => oExt 0 (t99 E)) <| purN d103 (fun E => oExt 1 (t99 E)) <| alN d15 (fun E => aNew 38 [(.int .i64 (.ofNat 0)), (.str 0 0), (.int .u8 (.ofNat 0)), .nils, .nils, (.int .i64 (.ofNat 0)), .nils] []) <| efN dn (fun E H => oSt 7 (t15 E) (t102 E) H) <| purN d16 (fun E => some (t103 E)) <| skipC)
 (seqC (purN d105 (fun E => some (t1 E)) <| callN d106 7 (fun E => [(t105 E), .nils, (.int .i64 (.ofNat 0)), (.int .i64 (.ofNat 1099511627777))]) <| purN d104 (fun E => some (t106 E)) <| purN d107 (fun E => oExt 0 (t104 E)) <| purN d108 (fun E => oExt 1 (t104 E)) <| alN d17 (fun E => aNew 38 [(.int .i64 (.ofNat 0)), (.str 0 0), (.int .u8 (.ofNat 0)), .nils, .nils, (.int .i64 (.ofNat 0)), .nils] []) <| efN dn (fun E H => oSt 7 (t17 E) (t107 E) H) <| purN d18 (fun E => some (t108 E)) <| skipC)
 (seqC (purN d110 (fun E => some (t1 E)) <| callN d111 7 (fun E => [(t110 E), .nils, (.int .i64 (.ofNat 2147483646)), (.int .i64 (.ofNat 0))]) <| purN d109 (fun E => some (t111 E)) <| purN d112 (fun E => oExt 0 (t109 E)) <| purN d113 (fun E => oExt 1 (t109 E)) <| alN d19 (fun E => aNew 38 [(.int .i64 (.ofNat 0)), (.str 0 0), (.int .u8 (.ofNat 0)), .nils, .nils, (.int .i64 (.ofNat 0)), .nils] []) <| efN dn (fun E H => oSt 7 (t19 E) (t112 E) H) <| purN d20 (fun E => some (t113 E)) <| skipC)
 (seqC (purN d115 (fun E => some (t1 E)) <| callN d116 9 (fun E => [(.int .i64 (.ofNat 1))]) <| purN d117 (fun E => oAgg [(.str 0 0), (.int .u8 (.ofNat 0)), (.int .i64 (.ofNat 0)), (.bool false), (.str 0 0)] [(0, 1), (1, 4)] [(.str 1 120), (t116 E)]) <| alN d118 (fun E => aSlice 46 1 [(.str 0 0), (.int .u8 (.ofNat 0)), (.int .i64 (.ofNat 0)), (.bool false), (.str 0 0)] [(0, 5)] [(t117 E)]) <| callN d119 7 (fun E => [(t115 E), (t118 E), (.int .i64 (.ofNat 0)), (.int .i64 (.ofNat 0))]) <| purN d114 (fun E => some (t119 E)) <| purN d120 (fun E => oExt 0 (t114 E)) <| purN d121 (fun E => oExt 1 (t114 E)) <| alN d21 (fun E => aNew 38 [(.int .i64 (.ofNat 0)), (.str 0 0), (.int .u8 (.ofNat 0)), .nils, .nils, (.int .i64 (.ofNat 0)), .nils] []) <| efN dn (fun E H => oSt 7 (t21 E) (t120 E) H) <| purN d22 (fun E => some (t121 E)) <| skipC)
 (seqC (purN d123 (fun E => some (t1 E)) <| purN d124 (fun E => oAgg [(.int .i64 (.ofNat 0)), (.str 0 0), (.str 0 0), (.int .i64 (.ofNat 0)), (.int .i64 (.ofNat 0)), (.str 0 0), (.int .i64 (.ofNat 0)), (.int .u8 (.ofNat 0)), (.int .i64 (.ofNat 0))] [(1, 1)] [(.str 1 115)]) <| callN d125 10 (fun E => [(t123 E), .nils, (t124 E)]) <| purN d122 (fun E => some (t125 E)) <| purN d126 (fun E => oExt 0 (t122 E)) <| purN d127 (fun E => oExt 1 (t122 E)) <| purN d23 (fun E => some (t126 E)) <| purN d24 (fun E => some (t127 E)) <| skipC)
 (seqC (purN d129 (fun E => oAgg [(.str 0 0), (.str 0 0), .nils, .nils, .nils] [] []) <| callN d130 5 (fun E => [(t129 E)]) <| purN d128 (fun E => some (t130 E)) <| purN d131 (fun E => oExt 0 (t128 E)) <| purN d132 (fun E => oExt 1 (t128 E)) <| purN d25 (fun E => some (t131 E)) <| purN d26 (fun E => some (t132 E)) <| skipC)
 (seqC (purN d27 (fun E => some .nilp) <| skipC)
 (seqC (purN d134 (fun E => some (t27 E)) <| callN d135 7 (fun E => [(t134 E), .nils, (.int .i64 (.ofNat 0)), (.int .i64 (.ofNat 0))]) <| purN d133 (fun E => some (t135 E)) <| purN d136 (fun E => oExt 0 (t133 E)) <| purN d137 (fun E => oExt 1 (t133 E)) <| alN d28 (fun E => aNew 38 [(.int .i64 (.ofNat 0)), (.str 0 0), (.int .u8 (.ofNat 0)), .nils, .nils, (.int .i64 (.ofNat 0)), .nils] []) <| efN dn (fun E H => oSt 7 (t28 E) (t136 E) H) <| purN d29 (fun E => some (t137 E)) <| skipC)
 (seqC (purN d139 (fun E => some (t27 E)) <| purN d140 (fun E => oFad 0 (t3 E)) <| rdN d141 (fun E H => oLdN 5 (t140 E) H) <| callN d142 8 (fun E => [(t139 E), (t141 E), (.int .i64 (.ofNat 2)), (.str 1 117), (.int .i64 (.ofNat 2)), (.int .i64 (.ofNat 6))]) <| purN d138 (fun E => some (t142 E)) <| purN d143 (fun E => oExt 0 (t138 E)) <| purN d144 (fun E => oExt 1 (t138 E)) <| alN d30 (fun E => aNew 38 [(.int .i64 (.ofNat 0)), (.str 0 0), (.int .u8 (.ofNat 0)), .nils, .nils, (.int .i64 (.ofNat 0)), .nils] []) <| efN dn (fun E H => oSt 7 (t30 E) (t143 E) H) <| purN d31 (fun E => some (t144 E)) <| skipC)
 (seqC (purN d146 (fun E => some (t27 E)) <| purN d147 (fun E => oAgg [(.int .i64 (.ofNat 0)), (.str 0 0), (.str 0 0), (.int .i64 (.ofNat 0)), (.int .i64 (.ofNat 0)), (.str 0 0), (.int .i64 (.ofNat 0)), (.int .u8 (.ofNat 0)), (.int .i64 (.ofNat 0))] [] []) <| callN d148 10 (fun E => [(t146 E), .nils, (t147 E)]) <| purN d145 (fun E => some (t148 E)) <| purN d149 (fun E => oExt 0 (t145 E)) <| purN d150 (fun E => oExt 1 (t145 E)) <| purN d32 (fun E => some (t149 E)) <| purN d33 (fun E => some (t150 E)) <| skipC)
 (seqC (seqC (purN d151 (fun E => some (t6 E)) <| purN d152 (fun E => bNeq true .i (t151 E) (.int .i64 (.ofNat 1))) <| purN d153 (fun E => some (t152 E)) <| gdC t153 false d154 (fun rest => purN d154 (fun E => some (t8 E)) <| rest) <| gdC t153 false d155 (fun rest => purN d155 (fun E => bNeq true .i (t154 E) (.int .i64 (.ofNat 1))) <| rest) <| purN d156 (fun E => oPick (t153 E) (.bool true) (t155 E)) <| purN d157 (fun E => some (t156 E)) <| gdC t157 false d158 (fun rest => purN d158 (fun E => some (t10 E)) <| rest) <| gdC t157 false d159 (fun rest => purN d159 (fun E => bNeq true .i (t158 E) (.int .i64 (.ofNat 1))) <| rest) <| purN d160 (fun E => oPick (t157 E) (.bool true) (t159 E)) <| purN d161 (fun E => some (t160 E)) <| gdC t161 false d162 (fun rest => purN d162 (fun E => some (t12 E)) <| rest) <| gdC t161 false d163 (fun rest => purN d163 (fun E => bNeq true .i (t162 E) (.int .i64 (.ofNat 1))) <| rest) <| purN d164 (fun E => oPick (t161 E) (.bool true) (t163 E)) <| purN d165 (fun E => some (t164 E)) <| gdC t165 false d166 (fun rest => purN d166 (fun E => some (t14 E)) <| rest) <| gdC t165 false d167 (fun rest => purN d167 (fun E => bNeq true .i (t166 E) (.int .i64 (.ofNat 1))) <| rest) <| purN d168 (fun E => oPick (t165 E) (.bool true) (t167 E)) <| purN d169 (fun E => some (t168 E)) <| gdC t169 false d170 (fun rest => purN d170 (fun E => some (t16 E)) <| rest) <| gdC t169 false d171 (fun rest => purN d171 (fun E => bNeq true .i (t170 E) (.int .i64 (.ofNat 1))) <| rest) <| purN d172 (fun E => oPick (t169 E) (.bool true) (t171 E)) <| purN d173 (fun E => some (t172 E)) <| gdC t173 false d174 (fun rest => purN d174 (fun E => some (t18 E)) <| rest) <| gdC t173 false d175 (fun rest => purN d175 (fun E => bNeq true .i (t174 E) (.int .i64 (.ofNat 1))) <| rest) <| purN d176 (fun E => oPick (t173 E) (.bool true) (t175 E)) <| purN d177 (fun E => some (t176 E)) <| gdC t177 false d178 (fun rest => purN d178 (fun E => some (t20 E)) <| rest) <| gdC t177 false d179 (fun rest => purN d179 (fun E => bNeq true .i (t178 E) (.int .i64 (.ofNat 3))) <| rest) <| purN d180 (fun E => oPick (t177 E) (.bool true) (t179 E)) <| purN d181 (fun E => some (t180 E)) <| gdC t181 false d182 (fun rest => purN d182 (fun E => some (t22 E)) <| rest) <| gdC t181 false d183 (fun rest => purN d183 (fun E => bNeq true .i (t182 E) (.int .i64 (.ofNat 1))) <| rest) <| purN d184 (fun E => oPick (t181 E) (.bool true) (t183 E)) <| purN d185 (fun E => some (t184 E)) <| gdC t185 false d186 (fun rest => purN d186 (fun E => some (t24 E)) <| rest) <| gdC t185 false d187 (fun rest => purN d187 (fun E => bNeq true .i (t186 E) (.int .i64 (.ofNat 1))) <| rest) <| purN d188 (fun E => oPick (t185 E) (.bool true) (t187 E)) <| purN d189 (fun E => some (t188 E)) <| gdC t189 false d190 (fun rest => purN d190 (fun E => some (t26 E)) <| rest) <| gdC t189 false d191 (fun rest => purN d191 (fun E => bNeq true .i (t190 E) (.int .i64 (.ofNat 140))) <| rest) <| purN d192 (fun E => oPick (t189 E) (.bool true) (t191 E)) <| purN d193 (fun E => some (t192 E)) <| gdC t193 false d194 (fun rest => purN d194 (fun E => some (t29 E)) <| rest) <| gdC t193 false d195 (fun rest => purN d195 (fun E => bNeq true .i (t194 E) (.int .i64 (.ofNat 2))) <| rest) <| purN d196 (fun E => oPick (t193 E) (.bool true) (t195 E)) <| purN d197 (fun E => some (t196 E)) <| gdC t197 false d198 (fun rest => purN d198 (fun E => some (t31 E)) <| rest) <| gdC t197 false d199 (fun rest => purN d199 (fun E => bNeq true .i (t198 E) (.int .i64 (.ofNat 2))) <| rest) <| purN d200 (fun E => oPick (t197 E) (.bool true) (t199 E)) <| purN d201 (fun E => some (t200 E)) <| gdC t201 false d202 (fun rest => purN d202 (fun E => some (t33 E)) <| rest) <| gdC t201 false d203 (fun rest => purN d203 (fun E => bNeq true .i (t202 E) (.int .i64 (.ofNat 2))) <| rest) <| purN d204 (fun E => oPick (t201 E) (.bool true) (t203 E)) <| purN d205 (fun E => some (t204 E)) <| gdC t205 false d206 (fun rest => purN d206 (fun E => some (t27 E)) <| rest) <| gdC t205 false d207 (fun rest => purN d207 (fun E => oFad 0 (t3 E)) <| rest) <| gdC t205 false d208 (fun rest => rdN d208 (fun E H => oLdN 5 (t207 E) H) <| rest) <| gdC t205 false d209 (fun rest => callN d209 11 (fun E => [(t206 E), (t208 E), (.int .i64 (.ofNat 2)), (.int .i64 (.ofNat 6))]) <| rest) <| gdC t205 false d210 (fun rest => purN d210 (fun E => bNeq true .i (t209 E) (.int .i64 (.ofNat 2))) <| rest) <| purN d211 (fun E => oPick (t205 E) (.bool true) (t210 E)) <| purN d212 (fun E => some (t211 E)) <| gdC t212 false d213 (fun rest => purN d213 (fun E => some (t27 E)) <| rest) <| gdC t212 false d214 (fun rest => callN d214 12 (fun E => [(t213 E)]) <| rest) <| gdC t212 false d215 (fun rest => purN d215 (fun E => oFld1 0 (t214 E)) <| rest) <| gdC t212 false d216 (fun rest => purN d216 (fun E => bNeq true .s (t215 E) (.str 0 0)) <| rest) <| purN d217 (fun E => oPick (t212 E) (.bool true) (t216 E)) <| skipC)
 (condF t217
 (seqC (purN d0 (fun E => some (.bool false)) <| skipC)
 retC)
 skipC))
 (seqC (callN d218 13 (fun E => []) <| purN d219 (fun E => some (t218 E)) <| gdC t219 true d220 (fun rest => callN d220 14 (fun E => []) <| rest) <| purN d221 (fun E => oPick (t219 E) (t220 E) (.bool false)) <| purN d222 (fun E => some (t221 E)) <| gdC t222 true d223 (fun rest => callN d223 15 (fun E => []) <| rest) <| purN d224 (fun E => oPick (t222 E) (t223 E) (.bool false)) <| purN d225 (fun E => some (t224 E)) <| gdC t225 true d226 (fun rest => callN d226 16 (fun E => []) <| rest) <| purN d227 (fun E => oPick (t225 E) (t226 E) (.bool false)) <| purN d228 (fun E => some (t227 E)) <| gdC t228 true d229 (fun rest => callN d229 17 (fun E => [(.int .i64 (.ofNat 2))]) <| rest) <| gdC t228 true d230 (fun rest => purN d230 (fun E => bEql true .i (t229 E) (.int .i64 (.ofNat 0))) <| rest) <| purN d231 (fun E => oPick (t228 E) (t230 E) (.bool false)) <| purN d232 (fun E => some (t231 E)) <| gdC t232 true d233 (fun rest => callN d233 17 (fun E => [(.int .i64 (.ofNat 3))]) <| rest) <| gdC t232 true d234 (fun rest => purN d234 (fun E => bEql true .i (t233 E) (.int .i64 (.ofNat 3))) <| rest) <| purN d235 (fun E => oPick (t232 E) (t234 E) (.bool false)) <| purN d0 (fun E => some (t235 E)) <| skipC)
 retC)))))))))))))))))))))) [fun E _ => some (t0 E)]
def pl3 : List (Nat × Plan) := []
noncomputable def c4 : TT → FnC := fnC 0 ((seqC (rg fun T E H k => k (d0 E (.bool false)) H)
 (seqC (rg fun T E H k => T 6 [] H fun v8 H => T 5 [v8] H fun v9 H => bV (fExt 0 v9) fun v10 => bV (fExt 1 v9) fun v11 => k (d2 (d1 E v10) v11) H)
 (seqC (seqC (rg fun T E H k => bV (fNeq true .i (t2 E) (.int .i64 (.ofNat 0))) fun v13 => gdH v13 false H (fun rest => bV (some (t1 E)) fun v15 => rest v15 H) fun v15 H => gdH v13 false H (fun rest => bV (fEql true .p v15 .nilp) fun v16 => rest v16 H) fun v16 H => bV (fPick v13 (.bool true) v16) fun v17 => k (d17 E v17) H)
 (condF t17
 (seqC (rg fun T E H k => k (d0 E (.bool false)) H)
 retC)
 skipC))
 (seqC (rg fun T E H k => T 7 [(t1 E), .nils, (.int .i64 (.ofNat 0)), (.int .i64 (.ofNat 5))] H fun v20 H => bV (fExt 0 v20) fun v21 => bV (fExt 1 v20) fun v22 => bM (fNew 38 [(.int .i64 (.ofNat 0)), (.str 0 0), (.int .u8 (.ofNat 0)), .nils, .nils, (.int .i64 (.ofNat 0)), .nils] []) H fun v3 H => bE (fSt 7 v3 v21 H) H fun _ H => k (d2 (d3 E v3) v22) H)
 (seqC (seqC (rg fun T E H k => bV (fNeq true .i (t2 E) (.int .i64 (.ofNat 0))) fun v24 => gdH v24 false H (fun rest => bV (fFad 5 (t3 E)) fun v26 => rest v26 H) fun v26 H => gdH v24 false H (fun rest => bV (fLd1 v26 H) fun v27 => rest v27 H) fun v27 H => gdH v24 false H (fun rest => bV (fNeq true .i v27 (.int .i64 (.ofNat 2))) fun v28 => rest v28 H) fun v28 H => bV (fPick v24 (.bool true) v28) fun v29 => gdH v29 false H (fun rest => bV (fFad 0 (t3 E)) fun v31 => rest v31 H) fun v31 H => gdH v29 false H (fun rest => bV (fFad 4 v31) fun v32 => rest v32 H) fun v32 H => gdH v29 false H (fun rest => bV (fLd1 v32 H) fun v33 => rest v33 H) fun v33 H => gdH v29 false H (fun rest => bV (fLenV v33) fun v34 => rest v34 H) fun v34 H => gdH v29 false H (fun rest => bV (fNeq true .i v34 (.int .i64 (.ofNat 1))) fun v35 => rest v35 H) fun v35 H => bV (fPick v29 (.bool true) v35) fun v36 => gdH v36 false H (fun rest => bV (fFad 0 (t3 E)) fun v38 => rest v38 H) fun v38 H => gdH v36 false H (fun rest => bV (fFad 4 v38) fun v39 => rest v39 H) fun v39 H => gdH v36 false H (fun rest => bV (fLd1 v39 H) fun v40 => rest v40 H) fun v40 H => gdH v36 false H (fun rest => bV (fIaS 9 v40 (.int .i64 (.ofNat 0))) fun v41 => rest v41 H) fun v41 H => gdH v36 false H (fun rest => bV (fLdN 9 v41 H) fun v42 => rest v42 H) fun v42 H => gdH v36 false H (fun rest => bV (fAgg [(.int .i64 (.ofNat 0)), (.str 0 0), (.str 0 0), (.int .i64 (.ofNat 0)), (.int .i64 (.ofNat 0)), (.str 0 0), (.int .i64 (.ofNat 0)), (.int .u8 (.ofNat 0)), (.int .i64 (.ofNat 0))] [(0, 1), (1, 1), (3, 1)] [(.int .i64 (.ofNat 2)), (.str 1 117), (.int .i64 (.ofNat 5))]) fun v43 => rest v43 H) fun v43 H => gdH v36 false H (fun rest => bV (fNeq false (.agg [.i, .s, .s, .i, .i, .s, .i, .i, .i]) v42 v43) fun v44 => rest v44 H) fun v44 H => bV (fPick v36 (.bool true) v44) fun v45 => gdH v45 false H (fun rest => bV (fFad 6 (t3 E)) fun v47 => rest v47 H) fun v47 H => gdH v45 false H (fun rest => bV (fLd1 v47 H) fun v48 => rest v48 H) fun v48 H => gdH v45 false H (fun rest => bM (fSlice 9 2 [(.str 0 0), (.str 0 0)] [(0, 1), (1, 1)] [(.str 1 115), (.str 2 29995)]) H fun v49 H => rest v49 H) fun v49 H => gdH v45 false H (fun rest => T 18 [v48, v49] H fun v50 H => rest v50 H) fun v50 H => gdH v45 false H (fun rest => bV (fNot v50) fun v51 => rest v51 H) fun v51 H => bV (fPick v45 (.bool true) v51) fun v52 => k (d52 E v52) H)
 (condF t52
 (seqC (rg fun T E H k => k (d0 E (.bool false)) H)
 retC)
 skipC))
 (seqC (rg fun T E H k => bV (fFad 0 (t3 E)) fun v55 => bV (fFad 4 v55) fun v56 => bV (fLd1 v56 H) fun v57 => bV (fIaS 9 v57 (.int .i64 (.ofNat 0))) fun v58 => bV (fLdN 9 v58 H) fun v59 => T 10 [(t1 E), .nils, v59] H fun v60 H => bV (fExt 0 v60) fun v61 => bV (fExt 1 v60) fun v62 => k (d2 (d4 E v61) v62) H)
 (seqC (rg fun T E H k => bV (fFad 0 (t3 E)) fun v65 => bV (fLdN 5 v65 H) fun v66 => T 8 [(t1 E), v66, (.int .i64 (.ofNat 2)), (.str 1 117), (.int .i64 (.ofNat 2)), (.int .i64 (.ofNat 6))] H fun v67 H => bV (fExt 0 v67) fun v68 => bV (fExt 1 v67) fun v69 => bM (fNew 38 [(.int .i64 (.ofNat 0)), (.str 0 0), (.int .u8 (.ofNat 0)), .nils, .nils, (.int .i64 (.ofNat 0)), .nils] []) H fun v5 H => bE (fSt 7 v5 v68 H) H fun _ H => k (d6 (d5 E v5) v69) H)
 (seqC (rg fun T E H k => bV (fEql true .i (t2 E) (.int .i64 (.ofNat 0))) fun v71 => gdH v71 true H (fun rest => bV (some (t4 E)) fun v73 => rest v73 H) fun v73 H => gdH v71 true H (fun rest => bV (fLenV v73) fun v74 => rest v74 H) fun v74 H => gdH v71 true H (fun rest => bV (fEql true .i v74 (.int .i64 (.ofNat 1))) fun v75 => rest v75 H) fun v75 H => bV (fPick v71 v75 (.bool false)) fun v76 => gdH v76 true H (fun rest => bV (some (t4 E)) fun v78 => rest v78 H) fun v78 H => gdH v76 true H (fun rest => bV (fIaS 5 v78 (.int .i64 (.ofNat 0))) fun v79 => rest v79 H) fun v79 H => gdH v76 true H (fun rest => bV (fLdN 5 v79 H) fun v80 => rest v80 H) fun v80 H => gdH v76 true H (fun rest => bV (fAgg [(.str 0 0), (.int .u8 (.ofNat 0)), (.str 0 0), (.str 0 0), (.int .i64 (.ofNat 0))] [(0, 1)] [(.str 1 117)]) fun v81 => rest v81 H) fun v81 H => gdH v76 true H (fun rest => bV (fEql false (.agg [.s, .i, .s, .s, .i]) v80 v81) fun v82 => rest v82 H) fun v82 H => bV (fPick v76 v82 (.bool false)) fun v83 => gdH v83 true H (fun rest => bV (some (t6 E)) fun v85 => rest v85 H) fun v85 H => gdH v83 true H (fun rest => bV (fEql true .i v85 (.int .i64 (.ofNat 0))) fun v86 => rest v86 H) fun v86 H => bV (fPick v83 v86 (.bool false)) fun v87 => gdH v87 true H (fun rest => bV (fFad 0 (t5 E)) fun v89 => rest v89 H) fun v89 H => gdH v87 true H (fun rest => bV (fFad 2 v89) fun v90 => rest v90 H) fun v90 H => gdH v87 true H (fun rest => bV (fLd1 v90 H) fun v91 => rest v91 H) fun v91 H => gdH v87 true H (fun rest => bV (fEql true .i v91 (.int .u8 (.ofNat 2))) fun v92 => rest v92 H) fun v92 H => bV (fPick v87 v92 (.bool false)) fun v93 => gdH v93 true H (fun rest => bV (fFad 0 (t5 E)) fun v95 => rest v95 H) fun v95 H => gdH v93 true H (fun rest => bV (fFad 4 v95) fun v96 => rest v96 H) fun v96 H => gdH v93 true H (fun rest => bV (fLd1 v96 H) fun v97 => rest v97 H) fun v97 H => gdH v93 true H (fun rest => bV (fLenV v97) fun v98 => rest v98 H) fun v98 H => gdH v93 true H (fun rest => bV (fEql true .i v98 (.int .i64 (.ofNat 0))) fun v99 => rest v99 H) fun v99 H => bV (fPick v93 v99 (.bool false)) fun v100 => gdH v100 true H (fun rest => bV (fFad 6 (t5 E)) fun v102 => rest v102 H) fun v102 H => gdH v100 true H (fun rest => bV (fLd1 v102 H) fun v103 => rest v103 H) fun v103 H => gdH v100 true H (fun rest => bM (fSlice 9 2 [(.str 0 0), (.str 0 0)] [(0, 1), (1, 1)] [(.str 2 29985), (.str 1 101)]) H fun v104 H => rest v104 H) fun v104 H => gdH v100 true H (fun rest => T 18 [v103, v104] H fun v105 H => rest v105 H) fun v105 H => bV (fPick v100 v105 (.bool false)) fun v106 => gdH v106 true H (fun rest => bV (fFad 5 (t5 E)) fun v108 => rest v108 H) fun v108 H => gdH v106 true H (fun rest => bV (fLd1 v108 H) fun v109 => rest v109 H) fun v109 H => gdH v106 true H (fun rest => bV (fEql true .i v109 (.int .i64 (.ofNat 2))) fun v110 => rest v110 H) fun v110 H => bV (fPick v106 v110 (.bool false)) fun v111 => k (d0 E v111) H)
 retC))))))))) [fun E _ => some (t0 E)]
def pl4 : Nat × List (Nat × Plan) := (5192296858534827624026896701718400, [])
noncomputable def c5 : TT → FnC := fnC 1 ((seqC (rg fun T E H k => bM (fBox 31 5 (t0 E)) H fun v1 H => k (d3 (d2 (d1 E v1) .nilp) (.int .i64 (.ofNat 0))) H)
 (seqC (seqC (rg fun T E H k => bV (fLdN 5 (t1 E) H) fun v16 => T 19 [v16] H fun v17 H => bV (fExt 0 v17) fun v18 => bV (fExt 1 v17) fun v19 => bV (fExt 2 v17) fun v20 => k (d6 E v20) H)
 (seqC (rg fun T E H k => bV (fNeq true .i (t6 E) (.int .i64 (.ofNat 0))) fun v22 => k (d22 E v22) H)
 (condF t22
 (seqC (rg fun T E H k => k (d3 (d2 E .nilp) (.int .i64 (.ofNat 140))) H)
 retC)
 skipC)))
 (seqC (rg fun T E H k => bV (fLdN 5 (t1 E) H) fun v23 => T 20 [v23] H fun v24 H => bM (aMap []) H fun v25 H => bM (aMap []) H fun v26 H => bM (aMap []) H fun v27 H => bM (aMap []) H fun v28 H => bM (aMap []) H fun v29 H => bV (fAgg [(.str 0 0), (.str 0 0), .nils, .nils, .nils, .nilm, .nilm, .nilm, .nilm, .nilm] [(0, 5), (5, 1), (6, 1), (7, 1), (8, 1), (9, 1)] [v24, v25, v26, v27, v28, v29]) fun v30 => bM (fBox 65 10 v30) H fun v31 H => k (d7 E v31) H)
 (seqC (seqC (rg fun T E H k => bV (fNilchk (t7 E)) fun v33 => bV (fFad 0 v33) fun v34 => bV (fFad 3 v34) fun v35 => bV (fLd1 v35 H) fun v36 => bV (fLenV v36) fun v37 => k (d38 (d37 (d36 E v36) v37) (.int .i64 (.ofNat 0))) H)
 (blockC 0 (loopC (seqC (rg fun T E H k => bV (fLss (t38 E) (t37 E)) fun v39 => k (d39 E v39) H)
 (seqC (condF t39
 skipC
 (exitC 0))
 (seqC (blockC 1 (seqC (rg fun T E H k => bV (fIaS 11 (t36 E) (t38 E)) fun v40 => bV (fLdN 11 v40 H) fun v41 => bM (fNew 67 [(.str 0 0), (.str 0 0), (.int .u8 (.ofNat 0)), (.str 0 0), (.str 0 0), (.str 0 0), (.int .u8 (.ofNat 0)), (.str 0 0), (.str 0 0), (.int .i64 (.ofNat 0)), (.int .i64 (.ofNat 0))] []) H fun v9 H => bE (fSt 11 v9 v41 H) H fun _ H => k (d9 E v9) H)
 (rg fun T E H k => bV (fNilchk (t7 E)) fun v43 => bV (fFad 5 v43) fun v44 => bV (fLd1 v44 H) fun v45 => bV (fFad 0 (t9 E)) fun v46 => bV (fLd1 v46 H) fun v47 => bV (fNilchk (t7 E)) fun v49 => bV (fFad 7 v49) fun v50 => bV (fLd1 v50 H) fun v51 => bV (fFad 0 (t9 E)) fun v52 => bV (fLd1 v52 H) fun v53 => bV (fNilchk (t7 E)) fun v55 => bV (fFad 8 v55) fun v56 => bV (fLd1 v56 H) fun v57 => bV (fFad 0 (t9 E)) fun v58 => bV (fLd1 v58 H) fun v59 => bV (fLdN 11 (t9 E) H) fun v60 => bV (fLdN 5 (t1 E) H) fun v61 => bV (fFad 0 (t9 E)) fun v62 => bV (fLd1 v62 H) fun v63 => bV (fLdN 5 (t1 E) H) fun v65 => bV (fFad 0 (t9 E)) fun v66 => bV (fLd1 v66 H) fun v67 => T 21 [v61, v63] H fun v64 H => agn (fLd1 v66 H) v67 <| agn (fLdN 5 (t1 E) H) v65 <| agn (fLdN 11 (t9 E) H) v60 <| agn (fLd1 v58 H) v59 <| agn (fLd1 v56 H) v57 <| agn (fLd1 v52 H) v53 <| agn (fLd1 v50 H) v51 <| agn (fLd1 v46 H) v47 <| agn (fLd1 v44 H) v45 <| T 22 [v65, v67] H fun v68 H => agn (fLdN 11 (t9 E) H) v60 <| agn (fLd1 v58 H) v59 <| agn (fLd1 v56 H) v57 <| agn (fLd1 v52 H) v53 <| agn (fLd1 v50 H) v51 <| agn (fLd1 v46 H) v47 <| agn (fLd1 v44 H) v45 <| bE (oMe .s (.agg [(.str 0 0), (.str 0 0), (.int .u8 (.ofNat 0)), (.str 0 0), (.str 0 0), (.str 0 0), (.int .u8 (.ofNat 0)), (.str 0 0), (.str 0 0), (.int .i64 (.ofNat 0)), (.int .i64 (.ofNat 0))]) v45 v47 H) H fun v69 H => agn (fLdN 11 (t9 E) H) v60 <| agn (fLd1 v58 H) v59 <| agn (fLd1 v52 H) v53 <| bV (fExt 1 v69) fun v70 => bE (oEs v45 v70 v60 H) H fun _ H => agn (fLd1 v58 H) v59 <| agn (fLd1 v52 H) v53 <| bE (oMe .s .nils v51 v53 H) H fun v71 H => agn (fLd1 v58 H) v59 <| bV (fExt 1 v71) fun v72 => bE (oEs v51 v72 v64 H) H fun _ H => agn (fLd1 v58 H) v59 <| bE (oMe .s .nils v57 v59 H) H fun v73 H => bV (fExt 1 v73) fun v74 => bE (oEs v57 v74 v68 H) H fun _ H => k E H)))
 (rg fun T E H k => bV (fAdd (t38 E) (.int .i64 (.ofNat 1))) fun v75 => k (d38 E v75) H)))))))
 (seqC (seqC (rg fun T E H k => bV (fNilchk (t7 E)) fun v77 => bV (fFad 0 v77) fun v78 => bV (fFad 4 v78) fun v79 => bV (fLd1 v79 H) fun v80 => bV (fLenV v80) fun v81 => k (d82 (d81 (d80 E v80) v81) (.int .i64 (.ofNat 0))) H)
 (blockC 2 (loopC (seqC (rg fun T E H k => bV (fLss (t82 E) (t81 E)) fun v83 => k (d83 E v83) H)
 (seqC (condF t83
 skipC
 (exitC 2))
 (seqC (blockC 3 (seqC (rg fun T E H k => bV (fIaS 4 (t80 E) (t82 E)) fun v84 => bV (fLdN 4 v84 H) fun v85 => bM (fNew 70 [(.str 0 0), (.str 0 0), (.str 0 0), (.str 0 0)] []) H fun v11 H => bE (fSt 4 v11 v85 H) H fun _ H => k (d11 E v11) H)
 (seqC (rg fun T E H k => bV (fNilchk (t7 E)) fun v87 => bV (fFad 6 v87) fun v88 => bV (fLd1 v88 H) fun v89 => bV (fFad 0 (t11 E)) fun v90 => bV (fLd1 v90 H) fun v91 => bV (fLdN 4 (t11 E) H) fun v92 => bE (oMu .s v89 v91 v92 H) H fun _ H => k E H)
 (seqC (rg fun T E H k => bV (fFad 3 (t11 E)) fun v93 => bV (fLd1 v93 H) fun v94 => bV (fNeq true .s v94 (.str 0 0)) fun v95 => k (d95 E v95) H)
 (condF t95
 (seqC (rg fun T E H k => bV (fFad 3 (t11 E)) fun v97 => bV (fLd1 v97 H) fun v98 => T 23 [v98] H fun v99 H => bV (fExt 0 v99) fun v100 => bV (fExt 1 v99) fun v101 => bV (fExt 2 v99) fun v102 => bM (fNew 73 [(.int .u8 (.ofNat 0)), (.int .u8 (.ofNat 0)), (.int .i64 (.ofNat 0)), (.bool false), (.str 0 0), (.str 0 0), .nils] []) H fun v12 H => bE (fSt 7 v12 v100 H) H fun _ H => k (d14 (d12 E v12) v102) H)
 (seqC (seqC (rg fun T E H k => bV (fNeq true .i (t14 E) (.int .i64 (.ofNat 0))) fun v104 => k (d104 E v104) H)
 (condF t104
 (seqC (rg fun T E H k => k (d3 (d2 E .nilp) (.int .i64 (.ofNat 140))) H)
 retC)
 skipC))
 (rg fun T E H k => bV (fNilchk (t7 E)) fun v106 => bV (fFad 9 v106) fun v107 => bV (fLd1 v107 H) fun v108 => bV (fFad 0 (t11 E)) fun v109 => bV (fLd1 v109 H) fun v110 => bV (fLdN 7 (t12 E) H) fun v111 => bE (oMu .s v108 v110 v111 H) H fun _ H => k E H)))
 skipC)))))
 (rg fun T E H k => bV (fAdd (t82 E) (.int .i64 (.ofNat 1))) fun v112 => k (d82 E v112) H)))))))
 (seqC (rg fun T E H k => k (d3 (d2 E (t7 E)) (.int .i64 (.ofNat 0))) H)
 retC))))))) [fun E _ => some (t2 E), fun E _ => some (t3 E)]
def pl5 : Nat × List (Nat × Plan) := (20748865392320514417308772876656688, [(8, ⟨[0, 1, 2, 3, 4, 5, 6, 7, 8, 9, 10, 11, 12, 13, 14, 15, 16, 17, 18, 19, 20, 21, 23, 24, 25, 22, 26, 27, 28, 29, 30, 31, 32, 33, 34, 35], [0, 1, 3, 7, 0, 16, 0, 64, 192, 448, 0, 1024, 0, 4096, 12288, 28672, 0, 65536, 0, 0, 0, 1048576, 3670016, 0, 0, 16777216, 66584576, 133755903, 267973631, 536671231, 1073545215, 2147287039, 4294770687, 8589934591, 17179869183, 34359738367]⟩), (13, ⟨[0, 1, 2, 3, 4, 5, 6, 7], [0, 1, 3, 7, 0, 16, 0, 127]⟩), (18, ⟨[0, 1, 2, 3, 4, 5, 6, 7], [0, 1, 3, 7, 0, 16, 0, 127]⟩)])
noncomputable def c6 : TT → FnC := fnC 0 ((seqC (rg fun T E H k => bM (fNew 31 [(.str 0 0), (.str 0 0), .nils, .nils, .nils] []) H fun v0 H => k (d0 E v0) H)
 (seqC (rg fun T E H k => bV (fAgg [(.str 0 0), (.str 0 0), (.int .u8 (.ofNat 0)), (.str 0 0), (.str 0 0), (.str 0 0), (.int .u8 (.ofNat 0)), (.str 0 0), (.str 0 0), (.int .i64 (.ofNat 0)), (.int .i64 (.ofNat 0))] [(0, 1), (2, 1)] [(.str 1 115), (.int .u8 (.ofNat 1))]) fun v1 => bV (fAgg [(.str 0 0), (.str 0 0), (.int .u8 (.ofNat 0)), (.str 0 0), (.str 0 0), (.str 0 0), (.int .u8 (.ofNat 0)), (.str 0 0), (.str 0 0), (.int .i64 (.ofNat 0)), (.int .i64 (.ofNat 0))] [(0, 1), (2, 1)] [(.str 1 117), (.int .u8 (.ofNat 3))]) fun v2 => bV (fAgg [(.str 0 0), (.str 0 0), (.int .u8 (.ofNat 0)), (.str 0 0), (.str 0 0), (.str 0 0), (.int .u8 (.ofNat 0)), (.str 0 0), (.str 0 0), (.int .i64 (.ofNat 0)), (.int .i64 (.ofNat 0))] [(0, 1), (2, 1)] [(.str 1 101), (.int .u8 (.ofNat 2))]) fun v3 => bM (fSlice 67 3 [(.str 0 0), (.str 0 0), (.int .u8 (.ofNat 0)), (.str 0 0), (.str 0 0), (.str 0 0), (.int .u8 (.ofNat 0)), (.str 0 0), (.str 0 0), (.int .i64 (.ofNat 0)), (.int .i64 (.ofNat 0)), (.str 0 0), (.str 0 0), (.int .u8 (.ofNat 0)), (.str 0 0), (.str 0 0), (.str 0 0), (.int .u8 (.ofNat 0)), (.str 0 0), (.str 0 0), (.int .i64 (.ofNat 0)), (.int .i64 (.ofNat 0)), (.str 0 0), (.str 0 0), (.int .u8 (.ofNat 0)), (.str 0 0), (.str 0 0), (.str 0 0), (.int .u8 (.ofNat 0)), (.str 0 0), (.str 0 0), (.int .i64 (.ofNat 0)), (.int .i64 (.ofNat 0))] [(0, 11), (11, 11), (22, 11)] [v1, v2, v3]) H fun v4 H => bV (fAgg [(.str 0 0), (.str 0 0), (.str 0 0), (.str 0 0)] [(0, 1), (1, 1), (2, 1)] [(.str 1 102), (.str 1 115), (.str 1 117)]) fun v5 => bV (fAgg [(.str 0 0), (.str 0 0), (.str 0 0), (.str 0 0)] [(0, 1), (1, 1), (2, 1)] [(.str 1 103), (.str 1 117), (.str 1 101)]) fun v6 => bM (fSlice 70 2 [(.str 0 0), (.str 0 0), (.str 0 0), (.str 0 0), (.str 0 0), (.str 0 0), (.str 0 0), (.str 0 0)] [(0, 4), (4, 4)] [v5, v6]) H fun v7 H => bV (fAgg [(.str 0 0), (.str 0 0), .nils, .nils, .nils] [(0, 1), (3, 1), (4, 1)] [(.str 1 112), v4, v7]) fun v8 => bE (fSt 5 (t0 E) v8 H) H fun _ H => k E H)
 retC))) [fun E H => onPtr (t0 E) fun id off => onOpt (loadN H id off 5) fun l => some (.agg l)]
def pl6 : Nat × List (Nat × Plan) := (510, [])
noncomputable def c7 : TT → FnC := fnC 4 ((seqC (rg fun T E H k => bM (fNew 38 [(.int .i64 (.ofNat 0)), (.str 0 0), (.int .u8 (.ofNat 0)), .nils, .nils, (.int .i64 (.ofNat 0)), .nils] []) H fun v8 H => k (d9 (d8 E v8) (.int .i64 (.ofNat 0))) H)
 (seqC (seqC (rg fun T E H k => bV (fEql true .p (t0 E) .nilp) fun v13 => k (d13 E v13) H)
 (condF t13
 (seqC (rg fun T E H k => bV (fAgg [(.int .i64 (.ofNat 0)), (.str 0 0), (.int .u8 (.ofNat 0)), .nils, .nils, (.int .i64 (.ofNat 0)), .nils] [] []) fun v14 => bE (fSt 7 (t8 E) v14 H) H fun _ H => k (d9 E (.int .i64 (.ofNat 2))) H)
 retC)
 skipC))
 (seqC (seqC (rg fun T E H k => T 24 [(t0 E), (t1 E)] H fun v17 H => bV (fNot v17) fun v18 => gdH v18 false H (fun rest => bV (some (t2 E)) fun v20 => rest v20 H) fun v20 H => gdH v18 false H (fun rest => bV (fLss v20 (.int .i64 (.ofNat 0))) fun v21 => rest v21 H) fun v21 H => bV (fPick v18 (.bool true) v21) fun v22 => gdH v22 false H (fun rest => bV (some (t2 E)) fun v24 => rest v24 H) fun v24 H => gdH v22 false H (fun rest => bV (fGeq v24 (.int .i64 (.ofNat 2147483647))) fun v25 => rest v25 H) fun v25 H => bV (fPick v22 (.bool true) v25) fun v26 => gdH v26 false H (fun rest => bV (some (t3 E)) fun v28 => rest v28 H) fun v28 H => gdH v26 false H (fun rest => bV (fLss v28 (.int .i64 (.ofNat 0))) fun v29 => rest v29 H) fun v29 H => bV (fPick v26 (.bool true) v29) fun v30 => gdH v30 false H (fun rest => bV (some (t3 E)) fun v32 => rest v32 H) fun v32 H => gdH v30 false H (fun rest => bV (fGtr v32 (.int .i64 (.ofNat 1099511627776))) fun v33 => rest v33 H) fun v33 H => bV (fPick v30 (.bool true) v33) fun v34 => k (d34 E v34) H)
 (condF t34
 (seqC (rg fun T E H k => bV (fAgg [(.int .i64 (.ofNat 0)), (.str 0 0), (.int .u8 (.ofNat 0)), .nils, .nils, (.int .i64 (.ofNat 0)), .nils] [] []) fun v35 => bE (fSt 7 (t8 E) v35 H) H fun _ H => k (d9 E (.int .i64 (.ofNat 1))) H)
 retC)
 skipC))
 (seqC (rg fun T E H k => bV (fNilchk (t0 E)) fun v37 => bV (fFad 0 v37) fun v38 => bV (fFad 3 v38) fun v39 => bV (fLd1 v39 H) fun v40 => T 25 [v40, (.fn (.func 26) [] [])] H fun v41 H => k (d10 E v41) H)
 (seqC (rg fun T E H k => bV (fNilchk (t0 E)) fun v43 => bV (fFad 0 v43) fun v44 => bV (fFad 3 v44) fun v45 => bV (fLd1 v45 H) fun v46 => bV (fIaS 11 v46 (t10 E)) fun v48 => bV (fFad 0 v48) fun v49 => bV (fLd1 v49 H) fun v50 => k (d11 E v50) H)
 (seqC (rg fun T E H k => bV (fAdd (t2 E) (.int .i64 (.ofNat 1))) fun v53 => bV (fNilchk (t0 E)) fun v55 => bV (fFad 0 v55) fun v56 => bV (fFad 0 v56) fun v57 => bV (fLd1 v57 H) fun v58 => bV (fAgg [(.int .i64 (.ofNat 0)), (.str 0 0), (.int .u8 (.ofNat 0)), .nils, .nils] [(0, 1), (1, 1), (3, 1)] [v53, v58, (t1 E)]) fun v60 => bV (fNilchk (t0 E)) fun v62 => bV (fFad 8 v62) fun v63 => bV (fLd1 v63 H) fun v64 => bV (oLk .s .nils false v64 (t11 E) H) fun v66 => bV (fIaS 1 v66 (.int .i64 (.ofNat 0))) fun v67 => bV (fLd1 v67 H) fun v68 => bV (fAdd (t2 E) (.int .i64 (.ofNat 1))) fun v72 => bM (fSlice 9 1 [(.str 0 0)] [(0, 1)] [(t11 E)]) H fun v70 H => T 27 [(t0 E), v60, .nils, v68, v70, v72, (t3 E)] H fun v74 H => bV (fExt 0 v74) fun v75 => bV (fExt 1 v74) fun v76 => bE (fSt 7 (t8 E) v75 H) H fun _ H => k (d9 E v76) H)
 retC))))))) [fun E H => onPtr (t8 E) fun id off => onOpt (loadN H id off 7) fun l => some (.agg l), fun E _ => some (t9 E)]
def pl7 : Nat × List (Nat × Plan) := (151115727451811466956800, [(7, ⟨[0, 1, 2, 3, 4, 5, 6, 7, 8, 9, 10, 11, 12, 13, 14, 15, 16, 17, 18, 20, 21, 22, 19, 23, 24, 25, 26, 27], [0, 0, 2, 0, 8, 24, 56, 120, 0, 510, 0, 1024, 3072, 7168, 0, 31744, 64512, 130048, 0, 262144, 0, 1048576, 0, 8388607, 16777215, 16777215, 67108863, 134217727]⟩)])
noncomputable def c8 : TT → FnC := fnC 6 ((seqC (rg fun T E H k => bM (fBox 35 5 (t1 E)) H fun v7 H => bM (fBox 3 1 (t2 E)) H fun v8 H => bM (fNew 38 [(.int .i64 (.ofNat 0)), (.str 0 0), (.int .u8 (.ofNat 0)), .nils, .nils, (.int .i64 (.ofNat 0)), .nils] []) H fun v12 H => k (d13 (d12 (d8 (d7 E v7) v8) v12) (.int .i64 (.ofNat 0))) H)
 (seqC (seqC (rg fun T E H k => bV (fLdN 5 (t7 E) H) fun v20 => T 11 [(t0 E), v20, (t4 E), (t5 E)] H fun v23 H => k (d14 E v23) H)
 (seqC (rg fun T E H k => bV (fNeq true .i (t14 E) (.int .i64 (.ofNat 0))) fun v25 => k (d25 E v25) H)
 (condF t25
 (seqC (rg fun T E H k => bV (fAgg [(.int .i64 (.ofNat 0)), (.str 0 0), (.int .u8 (.ofNat 0)), .nils, .nils, (.int .i64 (.ofNat 0)), .nils] [] []) fun v26 => bE (fSt 7 (t12 E) v26 H) H fun _ H => k (d13 E (t14 E)) H)
 retC)
 skipC)))
 (seqC (rg fun T E H k => bV (fFad 4 (t7 E)) fun v28 => bV (fLd1 v28 H) fun v29 => bV (oFn (.func 29) 0 [(t8 E)]) fun v30 => T 28 [v29, v30] H fun v31 H => k (d15 E v31) H)
 (seqC (seqC (rg fun T E H k => bV (fLss (t15 E) (.int .i64 (.ofNat 0))) fun v33 => k (d33 E v33) H)
 (condF t33
 (seqC (rg fun T E H k => bV (fAgg [(.int .i64 (.ofNat 0)), (.str 0 0), (.int .u8 (.ofNat 0)), .nils, .nils, (.int .i64 (.ofNat 0)), .nils] [] []) fun v34 => bE (fSt 7 (t12 E) v34 H) H fun _ H => k (d13 E (.int .i64 (.ofNat 1))) H)
 retC)
 skipC))
 (seqC (rg fun T E H k => bV (fFad 4 (t7 E)) fun v37 => bV (fLd1 v37 H) fun v38 => bV (fIaS 9 v38 (t15 E)) fun v40 => bV (fLdN 9 v40 H) fun v41 => T 30 [(t0 E), v41, (t3 E)] H fun v43 H => bV (fExt 0 v43) fun v44 => bV (fExt 1 v43) fun v45 => bV (fExt 2 v43) fun v46 => k (d18 (d17 (d16 E v44) v45) v46) H)
 (seqC (seqC (rg fun T E H k => bV (fNot (t18 E)) fun v48 => k (d48 E v48) H)
 (condF t48
 (seqC (rg fun T E H k => bV (fAgg [(.int .i64 (.ofNat 0)), (.str 0 0), (.int .u8 (.ofNat 0)), .nils, .nils, (.int .i64 (.ofNat 0)), .nils] [] []) fun v49 => bE (fSt 7 (t12 E) v49 H) H fun _ H => k (d13 E (.int .i64 (.ofNat 1))) H)
 retC)
 skipC))
 (seqC (rg fun T E H k => bV (fLdN 5 (t7 E) H) fun v51 => bV (fFad 4 (t7 E)) fun v52 => bV (fLd1 v52 H) fun v53 => bV (fAdd (t15 E) (.int .i64 (.ofNat 1))) fun v57 => T 32 [v53] H fun v54 H => agn (fLdN 5 (t7 E) H) v51 <| T 31 [v54, (t15 E), v57] H fun v58 H => agn (fLdN 5 (t7 E) H) v51 <| T 27 [(t0 E), v51, v58, (t16 E), (t17 E), (t4 E), (t5 E)] H fun v63 H => bV (fExt 0 v63) fun v64 => bV (fExt 1 v63) fun v65 => bE (fSt 7 (t12 E) v64 H) H fun _ H => k (d13 E v65) H)
 retC)))))))) [fun E H => onPtr (t12 E) fun id off => onOpt (loadN H id off 7) fun l => some (.agg l), fun E _ => some (t13 E)]
def pl8 : Nat × List (Nat × Plan) := (73786694811237482496, [(10, ⟨[0, 1, 2, 3, 5, 6, 7, 9, 10, 11, 12, 4, 8, 13, 14, 15, 16, 17], [0, 0, 0, 4, 12, 0, 0, 64, 252, 0, 0, 0, 0, 8191, 16383, 16383, 65535, 131071]⟩)])
noncomputable def c9 : TT → FnC := fnC 1 ((seqC (rg fun T E H k => bM (fNew 43 [(.int .u8 (.ofNat 0)), (.int .i64 (.ofNat 0)), (.bool false), (.str 0 0)] []) H fun v2 H => k (d2 E v2) H)
 (seqC (rg fun T E H k => bV (fAgg [(.int .u8 (.ofNat 0)), (.int .i64 (.ofNat 0)), (.bool false), (.str 0 0)] [(0, 1), (1, 1)] [(.int .u8 (.ofNat 1)), (t0 E)]) fun v4 => bE (fSt 4 (t2 E) v4 H) H fun _ H => k E H)
 retC))) [fun E H => onPtr (t2 E) fun id off => onOpt (loadN H id off 4) fun l => some (.agg l)]
def pl9 : Nat × List (Nat × Plan) := (24, [])
noncomputable def c10 : TT → FnC := fnC 3 ((seqC (rg fun T E H k => bM (fBox 51 9 (t2 E)) H fun v5 H => k (d7 (d6 (d5 E v5) .nils) (.int .i64 (.ofNat 0))) H)
 (seqC (seqC (rg fun T E H k => bV (fEql true .p (t0 E) .nilp) fun v14 => k (d14 E v14) H)
 (condF t14
 (seqC (rg fun T E H k => k (d7 (d6 E .nils) (.int .i64 (.ofNat 2))) H)
 retC)
 skipC))
 (seqC (seqC (rg fun T E H k => bV (fLdN 9 (t5 E) H) fun v16 => T 33 [(t0 E), v16] H fun v17 H => bV (fNot v17) fun v18 => k (d18 E v18) H)
 (condF t18
 (seqC (rg fun T E H k => k (d7 (d6 E .nils) (.int .i64 (.ofNat 1))) H)
 retC)
 skipC))
 (seqC (rg fun T E H k => k (d8 E .nils) H)
 (seqC (seqC (rg fun T E H k => bV (fLdN 9 (t5 E) H) fun v20 => T 34 [(t0 E), v20] H fun v21 H => bV (fLenV v21) fun v22 => k (d23 (d22 (d21 E v21) v22) (.int .i64 (.ofNat 0))) H)
 (blockC 0 (loopC (seqC (rg fun T E H k => bV (fLss (t23 E) (t22 E)) fun v24 => k (d24 E v24) H)
 (seqC (condF t24
 skipC
 (exitC 0))
 (seqC (blockC 1 (seqC (rg fun T E H k => bV (fIaS 1 (t21 E) (t23 E)) fun v25 => bV (fLd1 v25 H) fun v26 => k (d10 E v26) H)
 (seqC (rg fun T E H k => bV (fFad 3 (t5 E)) fun v30 => bV (fLd1 v30 H) fun v31 => T 35 [(t0 E), (t10 E), v31, (t1 E)] H fun v33 H => bV (fExt 0 v33) fun v34 => bV (fExt 1 v33) fun v35 => bM (fNew 56 [(.str 0 0), (.int .u8 (.ofNat 0)), (.str 0 0), (.str 0 0), (.int .i64 (.ofNat 0))] []) H fun v11 H => bE (fSt 5 v11 v34 H) H fun _ H => k (d12 (d11 E v11) v35) H)
 (seqC (seqC (rg fun T E H k => bV (fNeq true .i (t12 E) (.int .i64 (.ofNat 0))) fun v37 => k (d37 E v37) H)
 (condF t37
 (seqC (rg fun T E H k => k (d7 (d6 E .nils) (t12 E)) H)
 retC)
 skipC))
 (rg fun T E H k => bV (fLdN 5 (t11 E) H) fun v40 => bM (fSlice 56 1 [(.str 0 0), (.int .u8 (.ofNat 0)), (.str 0 0), (.str 0 0), (.int .i64 (.ofNat 0))] [(0, 5)] [v40]) H fun v41 H => bE (fApp 56 5 64 (t8 E) v41 H) H fun v42 H => k (d8 E v42) H)))))
 (rg fun T E H k => bV (fAdd (t23 E) (.int .i64 (.ofNat 1))) fun v43 => k (d23 E v43) H)))))))
 (seqC (rg fun T E H k => k (d7 (d6 E (t8 E)) (.int .i64 (.ofNat 0))) H)
 retC))))))) [fun E _ => some (t6 E), fun E _ => some (t7 E)]
def pl10 : Nat × List (Nat × Plan) := (35046901391360, [])
noncomputable def c11 : TT → FnC := fnC 4 ((seqC (rg fun T E H k => bM (fBox 35 5 (t1 E)) H fun v5 H => k (d8 (d5 E v5) (.int .i64 (.ofNat 0))) H)
 (seqC (seqC (rg fun T E H k => bV (fEql true .p (t0 E) .nilp) fun v16 => k (d16 E v16) H)
 (condF t16
 (seqC (rg fun T E H k => k (d8 E (.int .i64 (.ofNat 2))) H)
 retC)
 skipC))
 (seqC (rg fun T E H k => bV (fGeq (t2 E) (.int .i64 (.ofNat 0))) fun v18 => gdH v18 true H (fun rest => bV (some (t2 E)) fun v20 => rest v20 H) fun v20 H => gdH v18 true H (fun rest => bV (fLeq v20 (.int .i64 (.ofNat 2147483647))) fun v21 => rest v21 H) fun v21 H => bV (fPick v18 v21 (.bool false)) fun v22 => gdH v22 true H (fun rest => bV (some (t3 E)) fun v24 => rest v24 H) fun v24 H => gdH v22 true H (fun rest => bV (fGeq v24 (.int .i64 (.ofNat 0))) fun v25 => rest v25 H) fun v25 H => bV (fPick v22 v25 (.bool false)) fun v26 => gdH v26 true H (fun rest => bV (some (t3 E)) fun v28 => rest v28 H) fun v28 H => gdH v26 true H (fun rest => bV (fLeq v28 (.int .i64 (.ofNat 1099511627776))) fun v29 => rest v29 H) fun v29 H => bV (fPick v26 v29 (.bool false)) fun v30 => gdH v30 true H (fun rest => bV (fFad 1 (t5 E)) fun v32 => rest v32 H) fun v32 H => gdH v30 true H (fun rest => bV (fLd1 v32 H) fun v33 => rest v33 H) fun v33 H => gdH v30 true H (fun rest => bV (some (t0 E)) fun v34 => rest v34 H) fun v34 H => gdH v30 true H (fun rest => bV (fNilchk v34) fun v35 => rest v35 H) fun v35 H => gdH v30 true H (fun rest => bV (fFad 0 v35) fun v36 => rest v36 H) fun v36 H => gdH v30 true H (fun rest => bV (fFad 0 v36) fun v37 => rest v37 H) fun v37 H => gdH v30 true H (fun rest => bV (fLd1 v37 H) fun v38 => rest v38 H) fun v38 H => gdH v30 true H (fun rest => bV (fEql false .s v33 v38) fun v39 => rest v39 H) fun v39 H => bV (fPick v30 v39 (.bool false)) fun v40 => gdH v40 true H (fun rest => bV (fFad 0 (t5 E)) fun v42 => rest v42 H) fun v42 H => gdH v40 true H (fun rest => bV (fLd1 v42 H) fun v43 => rest v43 H) fun v43 H => gdH v40 true H (fun rest => bV (fGeq v43 (.int .i64 (.ofNat 1))) fun v44 => rest v44 H) fun v44 H => bV (fPick v40 v44 (.bool false)) fun v45 => gdH v45 true H (fun rest => bV (fFad 0 (t5 E)) fun v47 => rest v47 H) fun v47 H => gdH v45 true H (fun rest => bV (fLd1 v47 H) fun v48 => rest v48 H) fun v48 H => gdH v45 true H (fun rest => bV (some (t2 E)) fun v49 => rest v49 H) fun v49 H => gdH v45 true H (fun rest => bV (fLeq v48 v49) fun v50 => rest v50 H) fun v50 H => bV (fPick v45 v50 (.bool false)) fun v51 => gdH v51 true H (fun rest => bV (some (t0 E)) fun v53 => rest v53 H) fun v53 H => gdH v51 true H (fun rest => bV (fFad 3 (t5 E)) fun v54 => rest v54 H) fun v54 H => gdH v51 true H (fun rest => bV (fLd1 v54 H) fun v55 => rest v55 H) fun v55 H => gdH v51 true H (fun rest => T 24 [v53, v55] H fun v56 H => rest v56 H) fun v56 H => bV (fPick v51 v56 (.bool false)) fun v57 => k (d9 E v57) H)
 (seqC (seqC (rg fun T E H k => bV (fFad 2 (t5 E)) fun v58 => bV (fLd1 v58 H) fun v59 => k (d59 E v59) H)
 (blockC 0 (seqC (rg fun T E H k => bV (fEql true .i (t59 E) (.int .u8 (.ofNat 1))) fun v61 => k (d60 E v61) H)
 (condF t60
 (rg fun T E H k => gdH (t9 E) true H (fun rest => bV (fFad 4 (t5 E)) fun v64 => rest v64 H) fun v64 H => gdH (t9 E) true H (fun rest => bV (fLd1 v64 H) fun v65 => rest v65 H) fun v65 H => gdH (t9 E) true H (fun rest => bV (fLenV v65) fun v66 => rest v66 H) fun v66 H => gdH (t9 E) true H (fun rest => bV (fGtr v66 (.int .i64 (.ofNat 0))) fun v67 => rest v67 H) fun v67 H => bV (fPick (t9 E) v67 (.bool false)) fun v68 => k (d9 E v68) H)
 (seqC (seqC (rg fun T E H k => bV (fEql true .i (t59 E) (.int .u8 (.ofNat 2))) fun v70 => k (d69 E v70) H)
 (condF t69
 skipC
 (rg fun T E H k => bV (fEql true .i (t59 E) (.int .u8 (.ofNat 3))) fun v71 => k (d69 E v71) H)))
 (condF t69
 (rg fun T E H k => gdH (t9 E) true H (fun rest => bV (fFad 4 (t5 E)) fun v74 => rest v74 H) fun v74 H => gdH (t9 E) true H (fun rest => bV (fLd1 v74 H) fun v75 => rest v75 H) fun v75 H => gdH (t9 E) true H (fun rest => bV (fLenV v75) fun v76 => rest v76 H) fun v76 H => gdH (t9 E) true H (fun rest => bV (fEql true .i v76 (.int .i64 (.ofNat 0))) fun v77 => rest v77 H) fun v77 H => bV (fPick (t9 E) v77 (.bool false)) fun v78 => k (d9 E v78) H)
 (rg fun T E H k => k (d9 E (.bool false)) H)))))))
 (seqC (rg fun T E H k => bM (aMap []) H fun v79 H => bM (fNew 89 [.nilm] []) H fun v10 H => bE (fSt 1 v10 v79 H) H fun _ H => k (d10 E v10) H)
 (seqC (seqC (rg fun T E H k => bV (fFad 4 (t5 E)) fun v80 => bV (fLd1 v80 H) fun v81 => bV (fLenV v81) fun v82 => k (d83 (d82 (d81 E v81) v82) (.int .i64 (.ofNat 0))) H)
 (blockC 1 (loopC (seqC (rg fun T E H k => bV (fLss (t83 E) (t82 E)) fun v84 => k (d84 E v84) H)
 (seqC (condF t84
 skipC
 (exitC 1))
 (seqC (blockC 2 (seqC (rg fun T E H k => bV (fIaS 9 (t81 E) (t83 E)) fun v86 => bV (fLdN 9 v86 H) fun v87 => bM (fNew 51 [(.int .i64 (.ofNat 0)), (.str 0 0), (.str 0 0), (.int .i64 (.ofNat 0)), (.int .i64 (.ofNat 0)), (.str 0 0), (.int .i64 (.ofNat 0)), (.int .u8 (.ofNat 0)), (.int .i64 (.ofNat 0))] []) H fun v12 H => bE (fSt 9 v12 v87 H) H fun _ H => k (d11 (d12 E v12) (t83 E)) H)
 (seqC (rg fun T E H k => gdH (t9 E) true H (fun rest => bV (fFad 0 (t12 E)) fun v90 => rest v90 H) fun v90 H => gdH (t9 E) true H (fun rest => bV (fLd1 v90 H) fun v91 => rest v91 H) fun v91 H => gdH (t9 E) true H (fun rest => bV (fGeq v91 (.int .i64 (.ofNat 1))) fun v92 => rest v92 H) fun v92 H => bV (fPick (t9 E) v92 (.bool false)) fun v93 => gdH v93 true H (fun rest => bV (fFad 0 (t12 E)) fun v95 => rest v95 H) fun v95 H => gdH v93 true H (fun rest => bV (fLd1 v95 H) fun v96 => rest v96 H) fun v96 H => gdH v93 true H (fun rest => bV (some (t2 E)) fun v97 => rest v97 H) fun v97 H => gdH v93 true H (fun rest => bV (fLeq v96 v97) fun v98 => rest v98 H) fun v98 H => bV (fPick v93 v98 (.bool false)) fun v99 => gdH v99 true H (fun rest => bV (fFad 0 (t12 E)) fun v101 => rest v101 H) fun v101 H => gdH v99 true H (fun rest => bV (fLd1 v101 H) fun v102 => rest v102 H) fun v102 H => gdH v99 true H (fun rest => bV (fFad 0 (t5 E)) fun v103 => rest v103 H) fun v103 H => gdH v99 true H (fun rest => bV (fLd1 v103 H) fun v104 => rest v104 H) fun v104 H => gdH v99 true H (fun rest => bV (fNeq false .i v102 v104) fun v105 => rest v105 H) fun v105 H => bV (fPick v99 v105 (.bool false)) fun v106 => gdH v106 true H (fun rest => bV (some (t11 E)) fun v108 => rest v108 H) fun v108 H => gdH v106 true H (fun rest => bV (fEql true .i v108 (.int .i64 (.ofNat 0))) fun v109 => rest v109 H) fun v109 H => gdH v106 true H (fun rest => bV (some v109) fun v110 => rest v110 H) fun v110 H => gdH v110 false H (fun rest => bV (fFad 4 (t5 E)) fun v111 => rest v111 H) fun v111 H => gdH v110 false H (fun rest => bV (fLd1 v111 H) fun v112 => rest v112 H) fun v112 H => gdH v110 false H (fun rest => bV (some (t11 E)) fun v113 => rest v113 H) fun v113 H => gdH v110 false H (fun rest => bV (fSub v113 (.int .i64 (.ofNat 1))) fun v114 => rest v114 H) fun v114 H => gdH v110 false H (fun rest => bV (fIaS 9 v112 v114) fun v115 => rest v115 H) fun v115 H => gdH v110 false H (fun rest => bV (fFad 0 v115) fun v116 => rest v116 H) fun v116 H => gdH v110 false H (fun rest => bV (fLd1 v116 H) fun v117 => rest v117 H) fun v117 H => gdH v110 false H (fun rest => bV (fFad 0 (t12 E)) fun v118 => rest v118 H) fun v118 H => gdH v110 false H (fun rest => bV (fLd1 v118 H) fun v119 => rest v119 H) fun v119 H => gdH v110 false H (fun rest => bV (fLss v117 v119) fun v120 => rest v120 H) fun v120 H => gdH v106 true H (fun rest => bV (fPick v110 (.bool true) v120) fun v121 => rest v121 H) fun v121 H => bV (fPick v106 v121 (.bool false)) fun v122 => gdH v122 true H (fun rest => bV (some (t0 E)) fun v124 => rest v124 H) fun v124 H => gdH v122 true H (fun rest => bV (fLdN 9 (t12 E) H) fun v125 => rest v125 H) fun v125 H => gdH v122 true H (fun rest => T 33 [v124, v125] H fun v126 H => rest v126 H) fun v126 H => bV (fPick v122 v126 (.bool false)) fun v127 => gdH v127 true H (fun rest => bV (some (t0 E)) fun v129 => rest v129 H) fun v129 H => gdH v127 true H (fun rest => bV (fLdN 9 (t12 E) H) fun v130 => rest v130 H) fun v130 H => gdH v127 true H (fun rest => bV (some (t3 E)) fun v131 => rest v131 H) fun v131 H => gdH v127 true H (fun rest => T 36 [v129, v130, v131] H fun v132 H => rest v132 H) fun v132 H => bV (fPick v127 v132 (.bool false)) fun v133 => k (d9 E v133) H)
 (rg fun T E H k => bV (fLd1 (t10 E) H) fun v134 => bV (fFad 2 (t12 E)) fun v135 => bV (fLd1 v135 H) fun v136 => bE (oMu .s v134 v136 (.bool true) H) H fun _ H => k E H))))
 (rg fun T E H k => bV (fAdd (t83 E) (.int .i64 (.ofNat 1))) fun v137 => k (d83 E v137) H)))))))
 (seqC (seqC (rg fun T E H k => bV (fNilchk (t0 E)) fun v139 => bV (fFad 0 v139) fun v140 => bV (fFad 3 v140) fun v141 => bV (fLd1 v141 H) fun v142 => bV (fLenV v142) fun v143 => k (d144 (d143 (d142 E v142) v143) (.int .i64 (.ofNat 0))) H)
 (blockC 3 (loopC (seqC (rg fun T E H k => bV (fLss (t144 E) (t143 E)) fun v145 => k (d145 E v145) H)
 (seqC (condF t145
 skipC
 (exitC 3))
 (seqC (blockC 4 (seqC (rg fun T E H k => bV (fIaS 11 (t142 E) (t144 E)) fun v146 => bV (fLdN 11 v146 H) fun v147 => bM (fNew 67 [(.str 0 0), (.str 0 0), (.int .u8 (.ofNat 0)), (.str 0 0), (.str 0 0), (.str 0 0), (.int .u8 (.ofNat 0)), (.str 0 0), (.str 0 0), (.int .i64 (.ofNat 0)), (.int .i64 (.ofNat 0))] []) H fun v14 H => bE (fSt 11 v14 v147 H) H fun _ H => k (d14 E v14) H)
 (seqC (rg fun T E H k => bV (fFad 2 (t14 E)) fun v148 => bV (fLd1 v148 H) fun v149 => bV (fEql true .i v149 (.int .u8 (.ofNat 6))) fun v150 => gdH v150 true H (fun rest => bV (some (t0 E)) fun v152 => rest v152 H) fun v152 H => gdH v150 true H (fun rest => bV (fNilchk v152) fun v153 => rest v153 H) fun v153 H => gdH v150 true H (fun rest => bV (fFad 7 v153) fun v154 => rest v154 H) fun v154 H => gdH v150 true H (fun rest => bV (fLd1 v154 H) fun v155 => rest v155 H) fun v155 H => gdH v150 true H (fun rest => bV (fFad 0 (t14 E)) fun v156 => rest v156 H) fun v156 H => gdH v150 true H (fun rest => bV (fLd1 v156 H) fun v157 => rest v157 H) fun v157 H => gdH v150 true H (fun rest => bV (oLk .s .nils false v155 v157 H) fun v158 => rest v158 H) fun v158 H => gdH v150 true H (fun rest => bV (oFn (.func 38) 0 [(t10 E)]) fun v159 => rest v159 H) fun v159 H => gdH v150 true H (fun rest => T 37 [v158, v159] H fun v160 H => rest v160 H) fun v160 H => gdH v150 true H (fun rest => bV (fNot v160) fun v161 => rest v161 H) fun v161 H => bV (fPick v150 v161 (.bool false)) fun v162 => k (d162 E v162) H)
 (condF t162
 (rg fun T E H k => k (d9 E (.bool false)) H)
 skipC))))
 (rg fun T E H k => bV (fAdd (t144 E) (.int .i64 (.ofNat 1))) fun v163 => k (d144 E v163) H)))))))
 (seqC (seqC (rg fun T E H k => bV (fNot (t9 E)) fun v165 => k (d165 E v165) H)
 (condF t165
 (seqC (rg fun T E H k => k (d8 E (.int .i64 (.ofNat 1))) H)
 retC)
 skipC))
 (seqC (rg fun T E H k => k (d8 E (.int .i64 (.ofNat 0))) H)
 retC)))))))))) [fun E _ => some (t8 E)]
def pl11 : Nat × List (Nat × Plan) := (40921962217470787219866358288745788487519606571008, [(3, ⟨[0, 1, 2, 3, 4, 5, 6, 7, 8, 9, 10, 11, 12, 13, 14, 15, 16, 17, 18, 19, 20, 21, 22, 23, 24, 25, 26, 27, 28, 29, 30, 31, 32, 33, 34, 35, 36, 37, 38, 39, 40, 41], [0, 1, 3, 7, 15, 31, 63, 127, 255, 511, 1023, 2047, 4095, 8191, 16383, 32767, 65535, 32767, 163839, 425983, 950271, 1998847, 4194303, 8388607, 16777215, 33554431, 67108863, 134217727, 268435455, 536870911, 1073741823, 2147483647, 1073741823, 8589934591, 17179869183, 34359738367, 68719476735, 68719476735, 206158430207, 549755813887, 1099511627775, 2199023255551]⟩), (15, ⟨[0, 1, 2, 3, 4, 5, 6, 7, 8, 9, 10, 11, 12, 13, 14, 15, 16, 17, 18, 19, 20, 21, 22, 23, 24, 25, 26, 27, 28, 29, 30, 31, 32, 33, 34, 35, 36, 37, 38, 39, 40, 41, 42, 43, 44, 45, 46], [0, 1, 3, 7, 15, 31, 63, 127, 255, 127, 1023, 2047, 4095, 8191, 16383, 8191, 40959, 131071, 262143, 524287, 1048575, 2097151, 4194303, 8388607, 16777215, 8388607, 41943039, 134217727, 268435455, 536870911, 8388607, 1082130431, 4294967295, 8589934591, 17179869183, 34359738367, 68719476735, 68719476735, 274877906943, 549755813887, 1099511627775, 2199023255551, 2199023255551, 2199023255551, 17592186044415, 35184372088831, 70368744177663]⟩), (21, ⟨[0, 1, 2, 3, 4, 5, 6, 7, 8, 9, 10, 11, 12, 13, 14], [0, 1, 3, 7, 15, 31, 63, 127, 15, 271, 1023, 15, 4095, 8191, 16383]⟩)])
noncomputable def c12 : TT → FnC := fnC 1 ((seqC (rg fun T E H k => bM (fNew 31 [(.str 0 0), (.str 0 0), .nils, .nils, .nils] []) H fun v2 H => k (d2 E v2) H)
 (seqC (seqC (rg fun T E H k => bV (fEql true .p (t0 E) .nilp) fun v4 => k (d4 E v4) H)
 (condF t4
 (seqC (rg fun T E H k => bV (fAgg [(.str 0 0), (.str 0 0), .nils, .nils, .nils] [] []) fun v5 => bE (fSt 5 (t2 E) v5 H) H fun _ H => k E H)
 retC)
 skipC))
 (seqC (rg fun T E H k => bV (fNilchk (t0 E)) fun v7 => bV (fFad 0 v7) fun v8 => bV (fLdN 5 v8 H) fun v9 => T 20 [v9] H fun v10 H => bE (fSt 5 (t2 E) v10 H) H fun _ H => k E H)
 retC)))) [fun E H => onPtr (t2 E) fun id off => onOpt (loadN H id off 5) fun l => some (.agg l)]
def pl12 : Nat × List (Nat × Plan) := (2024, [])
noncomputable def c13 : TT → FnC := fnC 0 ((seqC (rg fun T E H k => k (d0 E (.bool false)) H)
 (seqC (rg fun T E H k => T 39 [] H fun v7 H => T 5 [v7] H fun v8 H => bV (fExt 0 v8) fun v9 => bV (fExt 1 v8) fun v10 => k (d2 (d1 E v9) v10) H)
 (seqC (seqC (rg fun T E H k => bV (fNeq true .i (t2 E) (.int .i64 (.ofNat 0))) fun v12 => k (d12 E v12) H)
 (condF t12
 (seqC (rg fun T E H k => k (d0 E (.bool false)) H)
 retC)
 skipC))
 (seqC (rg fun T E H k => T 7 [(t1 E), .nils, (.int .i64 (.ofNat 0)), (.int .i64 (.ofNat 1))] H fun v15 H => bV (fExt 0 v15) fun v16 => bV (fExt 1 v15) fun v17 => bM (fNew 38 [(.int .i64 (.ofNat 0)), (.str 0 0), (.int .u8 (.ofNat 0)), .nils, .nils, (.int .i64 (.ofNat 0)), .nils] []) H fun v3 H => bE (fSt 7 v3 v16 H) H fun _ H => k (d2 (d3 E v3) v17) H)
 (seqC (seqC (rg fun T E H k => bV (fNeq true .i (t2 E) (.int .i64 (.ofNat 0))) fun v19 => gdH v19 false H (fun rest => bV (fFad 0 (t3 E)) fun v21 => rest v21 H) fun v21 H => gdH v19 false H (fun rest => bV (fFad 4 v21) fun v22 => rest v22 H) fun v22 H => gdH v19 false H (fun rest => bV (fLd1 v22 H) fun v23 => rest v23 H) fun v23 H => gdH v19 false H (fun rest => bV (fLenV v23) fun v24 => rest v24 H) fun v24 H => gdH v19 false H (fun rest => bV (fNeq true .i v24 (.int .i64 (.ofNat 2))) fun v25 => rest v25 H) fun v25 H => bV (fPick v19 (.bool true) v25) fun v26 => gdH v26 false H (fun rest => bV (fFad 0 (t3 E)) fun v28 => rest v28 H) fun v28 H => gdH v26 false H (fun rest => bV (fFad 4 v28) fun v29 => rest v29 H) fun v29 H => gdH v26 false H (fun rest => bV (fLd1 v29 H) fun v30 => rest v30 H) fun v30 H => gdH v26 false H (fun rest => bV (fIaS 9 v30 (.int .i64 (.ofNat 1))) fun v31 => rest v31 H) fun v31 H => gdH v26 false H (fun rest => bV (fLdN 9 v31 H) fun v32 => rest v32 H) fun v32 H => gdH v26 false H (fun rest => bV (fAgg [(.int .i64 (.ofNat 0)), (.str 0 0), (.str 0 0), (.int .i64 (.ofNat 0)), (.int .i64 (.ofNat 0)), (.str 0 0), (.int .i64 (.ofNat 0)), (.int .u8 (.ofNat 0)), (.int .i64 (.ofNat 0))] [(0, 1), (1, 1), (3, 1)] [(.int .i64 (.ofNat 3)), (.str 1 98), (.int .i64 (.ofNat 1))]) fun v33 => rest v33 H) fun v33 H => gdH v26 false H (fun rest => bV (fNeq false (.agg [.i, .s, .s, .i, .i, .s, .i, .i, .i]) v32 v33) fun v34 => rest v34 H) fun v34 H => bV (fPick v26 (.bool true) v34) fun v35 => k (d35 E v35) H)
 (condF t35
 (seqC (rg fun T E H k => k (d0 E (.bool false)) H)
 retC)
 skipC))
 (seqC (rg fun T E H k => bV (fFad 0 (t3 E)) fun v38 => bV (fLdN 5 v38 H) fun v39 => T 8 [(t1 E), v39, (.int .i64 (.ofNat 2)), (.str 1 97), (.int .i64 (.ofNat 3)), (.int .i64 (.ofNat 2))] H fun v40 H => bV (fExt 0 v40) fun v41 => bV (fExt 1 v40) fun v42 => bM (fNew 38 [(.int .i64 (.ofNat 0)), (.str 0 0), (.int .u8 (.ofNat 0)), .nils, .nils, (.int .i64 (.ofNat 0)), .nils] []) H fun v4 H => bE (fSt 7 v4 v41 H) H fun _ H => k (d2 (d4 E v4) v42) H)
 (seqC (seqC (rg fun T E H k => bV (fNeq true .i (t2 E) (.int .i64 (.ofNat 0))) fun v44 => gdH v44 false H (fun rest => bV (fFad 0 (t4 E)) fun v46 => rest v46 H) fun v46 H => gdH v44 false H (fun rest => bV (fFad 4 v46) fun v47 => rest v47 H) fun v47 H => gdH v44 false H (fun rest => bV (fLd1 v47 H) fun v48 => rest v48 H) fun v48 H => gdH v44 false H (fun rest => bV (fLenV v48) fun v49 => rest v49 H) fun v49 H => gdH v44 false H (fun rest => bV (fNeq true .i v49 (.int .i64 (.ofNat 2))) fun v50 => rest v50 H) fun v50 H => bV (fPick v44 (.bool true) v50) fun v51 => gdH v51 false H (fun rest => bV (fFad 0 (t4 E)) fun v53 => rest v53 H) fun v53 H => gdH v51 false H (fun rest => bV (fFad 4 v53) fun v54 => rest v54 H) fun v54 H => gdH v51 false H (fun rest => bV (fLd1 v54 H) fun v55 => rest v55 H) fun v55 H => gdH v51 false H (fun rest => bV (fIaS 9 v55 (.int .i64 (.ofNat 0))) fun v56 => rest v56 H) fun v56 H => gdH v51 false H (fun rest => bV (fLdN 9 v56 H) fun v57 => rest v57 H) fun v57 H => gdH v51 false H (fun rest => bV (fFad 0 (t3 E)) fun v58 => rest v58 H) fun v58 H => gdH v51 false H (fun rest => bV (fFad 4 v58) fun v59 => rest v59 H) fun v59 H => gdH v51 false H (fun rest => bV (fLd1 v59 H) fun v60 => rest v60 H) fun v60 H => gdH v51 false H (fun rest => bV (fIaS 9 v60 (.int .i64 (.ofNat 1))) fun v61 => rest v61 H) fun v61 H => gdH v51 false H (fun rest => bV (fLdN 9 v61 H) fun v62 => rest v62 H) fun v62 H => gdH v51 false H (fun rest => bV (fNeq false (.agg [.i, .s, .s, .i, .i, .s, .i, .i, .i]) v57 v62) fun v63 => rest v63 H) fun v63 H => bV (fPick v51 (.bool true) v63) fun v64 => gdH v64 false H (fun rest => bV (fFad 0 (t4 E)) fun v66 => rest v66 H) fun v66 H => gdH v64 false H (fun rest => bV (fFad 4 v66) fun v67 => rest v67 H) fun v67 H => gdH v64 false H (fun rest => bV (fLd1 v67 H) fun v68 => rest v68 H) fun v68 H => gdH v64 false H (fun rest => bV (fIaS 9 v68 (.int .i64 (.ofNat 1))) fun v69 => rest v69 H) fun v69 H => gdH v64 false H (fun rest => bV (fLdN 9 v69 H) fun v70 => rest v70 H) fun v70 H => gdH v64 false H (fun rest => bV (fAgg [(.int .i64 (.ofNat 0)), (.str 0 0), (.str 0 0), (.int .i64 (.ofNat 0)), (.int .i64 (.ofNat 0)), (.str 0 0), (.int .i64 (.ofNat 0)), (.int .u8 (.ofNat 0)), (.int .i64 (.ofNat 0))] [(0, 1), (2, 1)] [(.int .i64 (.ofNat 4)), (.str 2 26164)]) fun v71 => rest v71 H) fun v71 H => gdH v64 false H (fun rest => bV (fNeq false (.agg [.i, .s, .s, .i, .i, .s, .i, .i, .i]) v70 v71) fun v72 => rest v72 H) fun v72 H => bV (fPick v64 (.bool true) v72) fun v73 => gdH v73 false H (fun rest => bV (fFad 5 (t4 E)) fun v75 => rest v75 H) fun v75 H => gdH v73 false H (fun rest => bV (fLd1 v75 H) fun v76 => rest v76 H) fun v76 H => gdH v73 false H (fun rest => bV (fNeq true .i v76 (.int .i64 (.ofNat 4))) fun v77 => rest v77 H) fun v77 H => bV (fPick v73 (.bool true) v77) fun v78 => k (d78 E v78) H)
 (condF t78
 (seqC (rg fun T E H k => k (d0 E (.bool false)) H)
 retC)
 skipC))
 (seqC (rg fun T E H k => bV (fFad 0 (t4 E)) fun v81 => bV (fLdN 5 v81 H) fun v82 => T 8 [(t1 E), v82, (.int .i64 (.ofNat 3)), (.str 1 98), (.int .i64 (.ofNat 4)), (.int .i64 (.ofNat 2))] H fun v83 H => bV (fExt 0 v83) fun v84 => bV (fExt 1 v83) fun v85 => bM (fNew 38 [(.int .i64 (.ofNat 0)), (.str 0 0), (.int .u8 (.ofNat 0)), .nils, .nils, (.int .i64 (.ofNat 0)), .nils] []) H fun v5 H => bE (fSt 7 v5 v84 H) H fun _ H => k (d2 (d5 E v5) v85) H)
 (seqC (rg fun T E H k => bV (fEql true .i (t2 E) (.int .i64 (.ofNat 0))) fun v87 => gdH v87 true H (fun rest => bV (fFad 0 (t5 E)) fun v89 => rest v89 H) fun v89 H => gdH v87 true H (fun rest => bV (fFad 2 v89) fun v90 => rest v90 H) fun v90 H => gdH v87 true H (fun rest => bV (fLd1 v90 H) fun v91 => rest v91 H) fun v91 H => gdH v87 true H (fun rest => bV (fEql true .i v91 (.int .u8 (.ofNat 2))) fun v92 => rest v92 H) fun v92 H => bV (fPick v87 v92 (.bool false)) fun v93 => gdH v93 true H (fun rest => bV (fFad 6 (t5 E)) fun v95 => rest v95 H) fun v95 H => gdH v93 true H (fun rest => bV (fLd1 v95 H) fun v96 => rest v96 H) fun v96 H => gdH v93 true H (fun rest => bM (fSlice 9 3 [(.str 0 0), (.str 0 0), (.str 0 0)] [(0, 1), (1, 1), (2, 1)] [(.str 2 25121), (.str 1 113), (.str 1 101)]) H fun v97 H => rest v97 H) fun v97 H => gdH v93 true H (fun rest => T 18 [v96, v97] H fun v98 H => rest v98 H) fun v98 H => bV (fPick v93 v98 (.bool false)) fun v99 => k (d0 E v99) H)
 retC)))))))))) [fun E _ => some (t0 E)]
def pl13 : Nat × List (Nat × Plan) := (1267650297996774497805049786304, [(8, ⟨[0, 1, 2, 3, 4, 5, 6, 7, 8, 9, 10, 11, 12, 13, 14, 15, 16, 17, 18, 19, 20, 21, 22, 23, 24, 25, 26, 27, 28, 29, 30, 31, 32, 33, 34, 35], [0, 1, 3, 7, 15, 31, 63, 127, 255, 511, 1023, 2047, 4095, 8191, 16383, 1023, 33791, 99327, 230399, 492543, 1048575, 2097151, 4194303, 8388607, 16777215, 33554431, 67108863, 134217727, 8388607, 536870911, 1073741823, 2147483647, 4294967295, 8589934591, 17179869183, 34359738367]⟩)])
noncomputable def c14 : TT → FnC := fnC 0 ((seqC (rg fun T E H k => k (d0 E (.bool false)) H)
 (seqC (rg fun T E H k => T 40 [] H fun v8 H => T 5 [v8] H fun v9 H => bV (fExt 0 v9) fun v10 => bV (fExt 1 v9) fun v11 => k (d2 (d1 E v10) v11) H)
 (seqC (seqC (rg fun T E H k => bV (fNeq true .i (t2 E) (.int .i64 (.ofNat 0))) fun v13 => k (d13 E v13) H)
 (condF t13
 (seqC (rg fun T E H k => k (d0 E (.bool false)) H)
 retC)
 skipC))
 (seqC (rg fun T E H k => T 40 [] H fun v16 H => bV (fFld1 2 v16) fun v17 => T 7 [(t1 E), v17, (.int .i64 (.ofNat 0)), (.int .i64 (.ofNat 1))] H fun v18 H => bV (fExt 0 v18) fun v19 => bV (fExt 1 v18) fun v20 => bM (fNew 38 [(.int .i64 (.ofNat 0)), (.str 0 0), (.int .u8 (.ofNat 0)), .nils, .nils, (.int .i64 (.ofNat 0)), .nils] []) H fun v3 H => bE (fSt 7 v3 v19 H) H fun _ H => k (d2 (d3 E v3) v20) H)
 (seqC (seqC (rg fun T E H k => bV (fNeq true .i (t2 E) (.int .i64 (.ofNat 0))) fun v22 => gdH v22 false H (fun rest => bV (fFad 0 (t3 E)) fun v24 => rest v24 H) fun v24 H => gdH v22 false H (fun rest => bV (fFad 4 v24) fun v25 => rest v25 H) fun v25 H => gdH v22 false H (fun rest => bV (fLd1 v25 H) fun v26 => rest v26 H) fun v26 H => gdH v22 false H (fun rest => bV (fLenV v26) fun v27 => rest v27 H) fun v27 H => gdH v22 false H (fun rest => bV (fNeq true .i v27 (.int .i64 (.ofNat 1))) fun v28 => rest v28 H) fun v28 H => bV (fPick v22 (.bool true) v28) fun v29 => gdH v29 false H (fun rest => bV (fFad 0 (t3 E)) fun v31 => rest v31 H) fun v31 H => gdH v29 false H (fun rest => bV (fFad 4 v31) fun v32 => rest v32 H) fun v32 H => gdH v29 false H (fun rest => bV (fLd1 v32 H) fun v33 => rest v33 H) fun v33 H => gdH v29 false H (fun rest => bV (fIaS 9 v33 (.int .i64 (.ofNat 0))) fun v34 => rest v34 H) fun v34 H => gdH v29 false H (fun rest => bV (fLdN 9 v34 H) fun v35 => rest v35 H) fun v35 H => gdH v29 false H (fun rest => bV (fAgg [(.int .i64 (.ofNat 0)), (.str 0 0), (.str 0 0), (.int .i64 (.ofNat 0)), (.int .i64 (.ofNat 0)), (.str 0 0), (.int .i64 (.ofNat 0)), (.int .u8 (.ofNat 0)), (.int .i64 (.ofNat 0))] [(0, 1), (2, 1), (7, 1), (8, 1)] [(.int .i64 (.ofNat 2)), (.str 1 102), (.int .u8 (.ofNat 1)), (.int .i64 (.ofNat 91))]) fun v36 => rest v36 H) fun v36 H => gdH v29 false H (fun rest => bV (fNeq false (.agg [.i, .s, .s, .i, .i, .s, .i, .i, .i]) v35 v36) fun v37 => rest v37 H) fun v37 H => bV (fPick v29 (.bool true) v37) fun v38 => gdH v38 false H (fun rest => bV (fFad 6 (t3 E)) fun v40 => rest v40 H) fun v40 H => gdH v38 false H (fun rest => bV (fLd1 v40 H) fun v41 => rest v41 H) fun v41 H => gdH v38 false H (fun rest => bM (fSlice 9 1 [(.str 0 0)] [(0, 1)] [(.str 1 115)]) H fun v42 H => rest v42 H) fun v42 H => gdH v38 false H (fun rest => T 18 [v41, v42] H fun v43 H => rest v43 H) fun v43 H => gdH v38 false H (fun rest => bV (fNot v43) fun v44 => rest v44 H) fun v44 H => bV (fPick v38 (.bool true) v44) fun v45 => k (d45 E v45) H)
 (condF t45
 (seqC (rg fun T E H k => k (d0 E (.bool false)) H)
 retC)
 skipC))
 (seqC (rg fun T E H k => bV (fFad 0 (t3 E)) fun v48 => bV (fLdN 5 v48 H) fun v49 => T 8 [(t1 E), v49, (.int .i64 (.ofNat 2)), (.str 1 102), (.int .i64 (.ofNat 2)), (.int .i64 (.ofNat 1))] H fun v50 H => bV (fExt 0 v50) fun v51 => bV (fExt 1 v50) fun v52 => bM (fNew 38 [(.int .i64 (.ofNat 0)), (.str 0 0), (.int .u8 (.ofNat 0)), .nils, .nils, (.int .i64 (.ofNat 0)), .nils] []) H fun v4 H => bE (fSt 7 v4 v51 H) H fun _ H => k (d2 (d4 E v4) v52) H)
 (seqC (seqC (rg fun T E H k => bV (fNeq true .i (t2 E) (.int .i64 (.ofNat 0))) fun v54 => gdH v54 false H (fun rest => bV (fFad 0 (t4 E)) fun v56 => rest v56 H) fun v56 H => gdH v54 false H (fun rest => bV (fFad 4 v56) fun v57 => rest v57 H) fun v57 H => gdH v54 false H (fun rest => bV (fLd1 v57 H) fun v58 => rest v58 H) fun v58 H => gdH v54 false H (fun rest => bV (fIaS 9 v58 (.int .i64 (.ofNat 0))) fun v59 => rest v59 H) fun v59 H => gdH v54 false H (fun rest => bV (fFad 0 v59) fun v60 => rest v60 H) fun v60 H => gdH v54 false H (fun rest => bV (fLd1 v60 H) fun v61 => rest v61 H) fun v61 H => gdH v54 false H (fun rest => bV (fNeq true .i v61 (.int .i64 (.ofNat 3))) fun v62 => rest v62 H) fun v62 H => bV (fPick v54 (.bool true) v62) fun v63 => gdH v63 false H (fun rest => bV (fFad 6 (t4 E)) fun v65 => rest v65 H) fun v65 H => gdH v63 false H (fun rest => bV (fLd1 v65 H) fun v66 => rest v66 H) fun v66 H => gdH v63 false H (fun rest => bV (fLenV v66) fun v67 => rest v67 H) fun v67 H => gdH v63 false H (fun rest => bV (fNeq true .i v67 (.int .i64 (.ofNat 0))) fun v68 => rest v68 H) fun v68 H => bV (fPick v63 (.bool true) v68) fun v69 => k (d69 E v69) H)
 (condF t69
 (seqC (rg fun T E H k => k (d0 E (.bool false)) H)
 retC)
 skipC))
 (seqC (rg fun T E H k => bV (fFad 0 (t4 E)) fun v70 => bV (fLdN 5 v70 H) fun v71 => bM (fNew 35 [(.int .i64 (.ofNat 0)), (.str 0 0), (.int .u8 (.ofNat 0)), .nils, .nils] []) H fun v5 H => bE (fSt 5 v5 v71 H) H fun _ H => k (d5 E v5) H)
 (seqC (rg fun T E H k => T 9 [(.int .i64 (.ofNat 1))] H fun v72 H => bV (fAgg [(.str 0 0), (.int .u8 (.ofNat 0)), (.int .i64 (.ofNat 0)), (.bool false), (.str 0 0)] [(0, 1), (1, 4)] [(.str 1 110), v72]) fun v73 => bM (fSlice 46 1 [(.str 0 0), (.int .u8 (.ofNat 0)), (.int .i64 (.ofNat 0)), (.bool false), (.str 0 0)] [(0, 5)] [v73]) H fun v74 H => bV (fFad 3 (t5 E)) fun v75 => bE (fSt 1 v75 v74 H) H fun _ H => k E H)
 (seqC (rg fun T E H k => bV (fLdN 5 (t5 E) H) fun v78 => T 8 [(t1 E), v78, (.int .i64 (.ofNat 3)), (.str 1 102), (.int .i64 (.ofNat 3)), (.int .i64 (.ofNat 1))] H fun v79 H => bV (fExt 0 v79) fun v80 => bV (fExt 1 v79) fun v81 => bM (fNew 38 [(.int .i64 (.ofNat 0)), (.str 0 0), (.int .u8 (.ofNat 0)), .nils, .nils, (.int .i64 (.ofNat 0)), .nils] []) H fun v6 H => bE (fSt 7 v6 v80 H) H fun _ H => k (d2 (d6 E v6) v81) H)
 (seqC (rg fun T E H k => bV (fEql true .i (t2 E) (.int .i64 (.ofNat 0))) fun v83 => gdH v83 true H (fun rest => bV (fFad 0 (t6 E)) fun v85 => rest v85 H) fun v85 H => gdH v83 true H (fun rest => bV (fFad 2 v85) fun v86 => rest v86 H) fun v86 H => gdH v83 true H (fun rest => bV (fLd1 v86 H) fun v87 => rest v87 H) fun v87 H => gdH v83 true H (fun rest => bV (fEql true .i v87 (.int .u8 (.ofNat 2))) fun v88 => rest v88 H) fun v88 H => bV (fPick v83 v88 (.bool false)) fun v89 => gdH v89 true H (fun rest => bV (fFad 6 (t6 E)) fun v91 => rest v91 H) fun v91 H => gdH v89 true H (fun rest => bV (fLd1 v91 H) fun v92 => rest v92 H) fun v92 H => gdH v89 true H (fun rest => bM (fSlice 9 2 [(.str 0 0), (.str 0 0)] [(0, 1), (1, 1)] [(.str 5 515939639400), (.str 1 100)]) H fun v93 H => rest v93 H) fun v93 H => gdH v89 true H (fun rest => T 18 [v92, v93] H fun v94 H => rest v94 H) fun v94 H => bV (fPick v89 v94 (.bool false)) fun v95 => k (d0 E v95) H)
 retC)))))))))))) [fun E _ => some (t0 E)]
def pl14 : Nat × List (Nat × Plan) := (79228161923968492050466201472, [])
noncomputable def c15 : TT → FnC := fnC 0 ((seqC (rg fun T E H k => k (d0 E (.bool false)) H)
 (seqC (rg fun T E H k => T 41 [(.str 1 97)] H fun v17 H => bV (fAgg [(.str 0 0), (.int .u8 (.ofNat 0)), (.int .i64 (.ofNat 0)), (.bool false), (.str 0 0)] [(0, 1), (1, 4)] [(.str 1 107), v17]) fun v18 => T 9 [(.int .i64 (.ofNat 1))] H fun v19 H => bV (fAgg [(.str 0 0), (.int .u8 (.ofNat 0)), (.int .i64 (.ofNat 0)), (.bool false), (.str 0 0)] [(0, 1), (1, 4)] [(.str 1 110), v19]) fun v20 => bM (fSlice 46 2 [(.str 0 0), (.int .u8 (.ofNat 0)), (.int .i64 (.ofNat 0)), (.bool false), (.str 0 0), (.str 0 0), (.int .u8 (.ofNat 0)), (.int .i64 (.ofNat 0)), (.bool false), (.str 0 0)] [(0, 5), (5, 5)] [v18, v20]) H fun v21 H => bV (fAgg [(.str 0 0), (.str 0 0), (.int .u8 (.ofNat 0)), (.str 0 0), (.str 0 0), (.str 0 0), (.int .u8 (.ofNat 0)), (.str 0 0), (.str 0 0), (.int .i64 (.ofNat 0)), (.int .i64 (.ofNat 0))] [(0, 1), (2, 1)] [(.str 1 115), (.int .u8 (.ofNat 1))]) fun v22 => bV (fAgg [(.str 0 0), (.str 0 0), (.int .u8 (.ofNat 0)), (.str 0 0), (.str 0 0), (.str 0 0), (.int .u8 (.ofNat 0)), (.str 0 0), (.str 0 0), (.int .i64 (.ofNat 0)), (.int .i64 (.ofNat 0))] [(0, 1), (2, 1)] [(.str 1 83), (.int .u8 (.ofNat 10))]) fun v23 => bV (fAgg [(.str 0 0), (.str 0 0), (.int .u8 (.ofNat 0)), (.str 0 0), (.str 0 0), (.str 0 0), (.int .u8 (.ofNat 0)), (.str 0 0), (.str 0 0), (.int .i64 (.ofNat 0)), (.int .i64 (.ofNat 0))] [(0, 1), (2, 1), (3, 1)] [(.str 1 116), (.int .u8 (.ofNat 1)), (.str 1 83)]) fun v24 => bV (fAgg [(.str 0 0), (.str 0 0), (.int .u8 (.ofNat 0)), (.str 0 0), (.str 0 0), (.str 0 0), (.int .u8 (.ofNat 0)), (.str 0 0), (.str 0 0), (.int .i64 (.ofNat 0)), (.int .i64 (.ofNat 0))] [(0, 1), (2, 1), (3, 1)] [(.str 1 71), (.int .u8 (.ofNat 7)), (.str 1 83)]) fun v25 => bV (fAgg [(.str 0 0), (.str 0 0), (.int .u8 (.ofNat 0)), (.str 0 0), (.str 0 0), (.str 0 0), (.int .u8 (.ofNat 0)), (.str 0 0), (.str 0 0), (.int .i64 (.ofNat 0)), (.int .i64 (.ofNat 0))] [(0, 1), (2, 1), (3, 1), (6, 1), (9, 1)] [(.str 2 25393), (.int .u8 (.ofNat 8)), (.str 1 83), (.int .u8 (.ofNat 1)), (.int .i64 (.ofNat 4))]) fun v26 => bV (fAgg [(.str 0 0), (.str 0 0), (.int .u8 (.ofNat 0)), (.str 0 0), (.str 0 0), (.str 0 0), (.int .u8 (.ofNat 0)), (.str 0 0), (.str 0 0), (.int .i64 (.ofNat 0)), (.int .i64 (.ofNat 0))] [(0, 1), (2, 1), (3, 1), (6, 1), (7, 1), (8, 1)] [(.str 2 25394), (.int .u8 (.ofNat 8)), (.str 1 83), (.int .u8 (.ofNat 2)), (.str 1 109), (.str 1 107)]) fun v27 => bV (fAgg [(.str 0 0), (.str 0 0), (.int .u8 (.ofNat 0)), (.str 0 0), (.str 0 0), (.str 0 0), (.int .u8 (.ofNat 0)), (.str 0 0), (.str 0 0), (.int .i64 (.ofNat 0)), (.int .i64 (.ofNat 0))] [(0, 1), (2, 1), (3, 1)] [(.str 2 25649), (.int .u8 (.ofNat 2)), (.str 1 83)]) fun v28 => bV (fAgg [(.str 0 0), (.str 0 0), (.int .u8 (.ofNat 0)), (.str 0 0), (.str 0 0), (.str 0 0), (.int .u8 (.ofNat 0)), (.str 0 0), (.str 0 0), (.int .i64 (.ofNat 0)), (.int .i64 (.ofNat 0))] [(0, 1), (2, 1), (3, 1)] [(.str 2 25650), (.int .u8 (.ofNat 2)), (.str 1 83)]) fun v29 => bV (fAgg [(.str 0 0), (.str 0 0), (.int .u8 (.ofNat 0)), (.str 0 0), (.str 0 0), (.str 0 0), (.int .u8 (.ofNat 0)), (.str 0 0), (.str 0 0), (.int .i64 (.ofNat 0)), (.int .i64 (.ofNat 0))] [(0, 1), (2, 1), (5, 1), (6, 1), (7, 1)] [(.str 1 98), (.int .u8 (.ofNat 9)), (.str 1 83), (.int .u8 (.ofNat 3)), (.str 2 26479)]) fun v30 => bV (fAgg [(.str 0 0), (.str 0 0), (.int .u8 (.ofNat 0)), (.str 0 0), (.str 0 0), (.str 0 0), (.int .u8 (.ofNat 0)), (.str 0 0), (.str 0 0), (.int .i64 (.ofNat 0)), (.int .i64 (.ofNat 0))] [(0, 1), (2, 1)] [(.str 1 101), (.int .u8 (.ofNat 2))]) fun v31 => bV (fAgg [(.str 0 0), (.str 0 0), (.int .u8 (.ofNat 0)), (.str 0 0), (.str 0 0), (.str 0 0), (.int .u8 (.ofNat 0)), (.str 0 0), (.str 0 0), (.int .i64 (.ofNat 0)), (.int .i64 (.ofNat 0))] [(0, 1), (2, 1)] [(.str 2 25906), (.int .u8 (.ofNat 2))]) fun v32 => bM (fSlice 67 11 [(.str 0 0), (.str 0 0), (.int .u8 (.ofNat 0)), (.str 0 0), (.str 0 0), (.str 0 0), (.int .u8 (.ofNat 0)), (.str 0 0), (.str 0 0), (.int .i64 (.ofNat 0)), (.int .i64 (.ofNat 0)), (.str 0 0), (.str 0 0), (.int .u8 (.ofNat 0)), (.str 0 0), (.str 0 0), (.str 0 0), (.int .u8 (.ofNat 0)), (.str 0 0), (.str 0 0), (.int .i64 (.ofNat 0)), (.int .i64 (.ofNat 0)), (.str 0 0), (.str 0 0), (.int .u8 (.ofNat 0)), (.str 0 0), (.str 0 0), (.str 0 0), (.int .u8 (.ofNat 0)), (.str 0 0), (.str 0 0), (.int .i64 (.ofNat 0)), (.int .i64 (.ofNat 0)), (.str 0 0), (.str 0 0), (.int .u8 (.ofNat 0)), (.str 0 0), (.str 0 0), (.str 0 0), (.int .u8 (.ofNat 0)), (.str 0 0), (.str 0 0), (.int .i64 (.ofNat 0)), (.int .i64 (.ofNat 0)), (.str 0 0), (.str 0 0), (.int .u8 (.ofNat 0)), (.str 0 0), (.str 0 0), (.str 0 0), (.int .u8 (.ofNat 0)), (.str 0 0), (.str 0 0), (.int .i64 (.ofNat 0)), (.int .i64 (.ofNat 0)), (.str 0 0), (.str 0 0), (.int .u8 (.ofNat 0)), (.str 0 0), (.str 0 0), (.str 0 0), (.int .u8 (.ofNat 0)), (.str 0 0), (.str 0 0), (.int .i64 (.ofNat 0)), (.int .i64 (.ofNat 0)), (.str 0 0), (.str 0 0), (.int .u8 (.ofNat 0)), (.str 0 0), (.str 0 0), (.str 0 0), (.int .u8 (.ofNat 0)), (.str 0 0), (.str 0 0), (.int .i64 (.ofNat 0)), (.int .i64 (.ofNat 0)), (.str 0 0), (.str 0 0), (.int .u8 (.ofNat 0)), (.str 0 0), (.str 0 0), (.str 0 0), (.int .u8 (.ofNat 0)), (.str 0 0), (.str 0 0), (.int .i64 (.ofNat 0)), (.int .i64 (.ofNat 0)), (.str 0 0), (.str 0 0), (.int .u8 (.ofNat 0)), (.str 0 0), (.str 0 0), (.str 0 0), (.int .u8 (.ofNat 0)), (.str 0 0), (.str 0 0), (.int .i64 (.ofNat 0)), (.int .i64 (.ofNat 0)), (.str 0 0), (.str 0 0), (.int .u8 (.ofNat 0)), (.str 0 0), (.str 0 0), (.str 0 0), (.int .u8 (.ofNat 0)), (.str 0 0), (.str 0 0), (.int .i64 (.ofNat 0)), (.int .i64 (.ofNat 0)), (.str 0 0), (.str 0 0), (.int .u8 (.ofNat 0)), (.str 0 0), (.str 0 0), (.str 0 0), (.int .u8 (.ofNat 0)), (.str 0 0), (.str 0 0), (.int .i64 (.ofNat 0)), (.int .i64 (.ofNat 0))] [(0, 11), (11, 11), (22, 11), (33, 11), (44, 11), (55, 11), (66, 11), (77, 11), (88, 11), (99, 11), (110, 11)] [v22, v23, v24, v25, v26, v27, v28, v29, v30, v31, v32]) H fun v33 H => bV (fAgg [(.str 0 0), (.str 0 0), (.str 0 0), (.str 0 0)] [(0, 1), (1, 1), (2, 1)] [(.str 2 26161), (.str 1 115), (.str 1 83)]) fun v34 => bV (fAgg [(.str 0 0), (.str 0 0), (.str 0 0), (.str 0 0)] [(0, 1), (1, 1), (2, 1)] [(.str 2 26162), (.str 1 116), (.str 1 71)]) fun v35 => bV (fAgg [(.str 0 0), (.str 0 0), (.str 0 0), (.str 0 0)] [(0, 1), (1, 1), (2, 1)] [(.str 2 26164), (.str 1 71), (.str 2 25394)]) fun v36 => bV (fAgg [(.str 0 0), (.str 0 0), (.str 0 0), (.str 0 0)] [(0, 1), (1, 1), (2, 1)] [(.str 2 26163), (.str 1 71), (.str 2 25393)]) fun v37 => bV (fAgg [(.str 0 0), (.str 0 0), (.str 0 0), (.str 0 0)] [(0, 1), (1, 1), (2, 1)] [(.str 2 26165), (.str 2 25393), (.str 2 25649)]) fun v38 => bV (fAgg [(.str 0 0), (.str 0 0), (.str 0 0), (.str 0 0)] [(0, 1), (1, 1), (2, 1)] [(.str 2 26166), (.str 2 25394), (.str 2 25650)]) fun v39 => bV (fAgg [(.str 0 0), (.str 0 0), (.str 0 0), (.str 0 0)] [(0, 1), (1, 1), (2, 1)] [(.str 2 26167), (.str 1 83), (.str 1 101)]) fun v40 => bV (fAgg [(.str 0 0), (.str 0 0), (.str 0 0), (.str 0 0)] [(0, 1), (1, 1), (2, 1)] [(.str 2 26168), (.str 1 98), (.str 2 25906)]) fun v41 => bM (fSlice 70 8 [(.str 0 0), (.str 0 0), (.str 0 0), (.str 0 0), (.str 0 0), (.str 0 0), (.str 0 0), (.str 0 0), (.str 0 0), (.str 0 0), (.str 0 0), (.str 0 0), (.str 0 0), (.str 0 0), (.str 0 0), (.str 0 0), (.str 0 0), (.str 0 0), (.str 0 0), (.str 0 0), (.str 0 0), (.str 0 0), (.str 0 0), (.str 0 0), (.str 0 0), (.str 0 0), (.str 0 0), (.str 0 0), (.str 0 0), (.str 0 0), (.str 0 0), (.str 0 0)] [(0, 4), (4, 4), (8, 4), (12, 4), (16, 4), (20, 4), (24, 4), (28, 4)] [v34, v35, v36, v37, v38, v39, v40, v41]) H fun v42 H => bV (fAgg [(.str 0 0), (.str 0 0), .nils, .nils, .nils] [(0, 1), (2, 1), (3, 1), (4, 1)] [(.str 1 112), v21, v33, v42]) fun v43 => bM (fNew 31 [(.str 0 0), (.str 0 0), .nils, .nils, .nils] []) H fun v1 H => bE (fSt 5 v1 v43 H) H fun _ H => k (d1 E v1) H)
 (seqC (rg fun T E H k => bV (fLdN 5 (t1 E) H) fun v45 => T 5 [v45] H fun v46 H => bV (fExt 0 v46) fun v47 => bV (fExt 1 v46) fun v48 => k (d3 (d2 E v47) v48) H)
 (seqC (seqC (rg fun T E H k => bV (fNeq true .i (t3 E) (.int .i64 (.ofNat 0))) fun v50 => k (d50 E v50) H)
 (condF t50
 (seqC (rg fun T E H k => k (d0 E (.bool false)) H)
 retC)
 skipC))
 (seqC (rg fun T E H k => bV (fFad 2 (t1 E)) fun v53 => bV (fLd1 v53 H) fun v54 => bV (fAgg [(.int .i64 (.ofNat 0)), (.str 0 0), (.str 0 0), (.int .i64 (.ofNat 0)), (.int .i64 (.ofNat 0)), (.str 0 0), (.int .i64 (.ofNat 0)), (.int .u8 (.ofNat 0)), (.int .i64 (.ofNat 0))] [(1, 1)] [(.str 2 25393)]) fun v55 => T 10 [(t2 E), v54, v55] H fun v56 H => bV (fExt 0 v56) fun v57 => bV (fExt 1 v56) fun v58 => k (d5 E v58) H)
 (seqC (seqC (rg fun T E H k => bV (fNeq true .i (t5 E) (.int .i64 (.ofNat 1))) fun v60 => k (d60 E v60) H)
 (condF t60
 (seqC (rg fun T E H k => k (d0 E (.bool false)) H)
 retC)
 skipC))
 (seqC (rg fun T E H k => bV (fFad 2 (t1 E)) fun v63 => bV (fLd1 v63 H) fun v64 => T 7 [(t2 E), v64, (.int .i64 (.ofNat 0)), (.int .i64 (.ofNat 3))] H fun v65 H => bV (fExt 0 v65) fun v66 => bV (fExt 1 v65) fun v67 => bM (fNew 38 [(.int .i64 (.ofNat 0)), (.str 0 0), (.int .u8 (.ofNat 0)), .nils, .nils, (.int .i64 (.ofNat 0)), .nils] []) H fun v6 H => bE (fSt 7 v6 v66 H) H fun _ H => k (d3 (d6 E v6) v67) H)
 (seqC (seqC (rg fun T E H k => bV (fNeq true .i (t3 E) (.int .i64 (.ofNat 0))) fun v69 => gdH v69 false H (fun rest => bV (fFad 0 (t6 E)) fun v71 => rest v71 H) fun v71 H => gdH v69 false H (fun rest => bV (fFad 4 v71) fun v72 => rest v72 H) fun v72 H => gdH v69 false H (fun rest => bV (fLd1 v72 H) fun v73 => rest v73 H) fun v73 H => gdH v69 false H (fun rest => bV (fLenV v73) fun v74 => rest v74 H) fun v74 H => gdH v69 false H (fun rest => bV (fNeq true .i v74 (.int .i64 (.ofNat 1))) fun v75 => rest v75 H) fun v75 H => bV (fPick v69 (.bool true) v75) fun v76 => gdH v76 false H (fun rest => bV (fFad 6 (t6 E)) fun v78 => rest v78 H) fun v78 H => gdH v76 false H (fun rest => bV (fLd1 v78 H) fun v79 => rest v79 H) fun v79 H => gdH v76 false H (fun rest => bM (fSlice 9 3 [(.str 0 0), (.str 0 0), (.str 0 0)] [(0, 1), (1, 1), (2, 1)] [(.str 1 115), (.str 1 83), (.str 2 18219)]) H fun v80 H => rest v80 H) fun v80 H => gdH v76 false H (fun rest => T 18 [v79, v80] H fun v81 H => rest v81 H) fun v81 H => gdH v76 false H (fun rest => bV (fNot v81) fun v82 => rest v82 H) fun v82 H => bV (fPick v76 (.bool true) v82) fun v83 => k (d83 E v83) H)
 (condF t83
 (seqC (rg fun T E H k => k (d0 E (.bool false)) H)
 retC)
 skipC))
 (seqC (rg fun T E H k => bV (fFad 0 (t6 E)) fun v84 => bV (fFad 4 v84) fun v85 => bV (fLd1 v85 H) fun v86 => bV (fIaS 9 v86 (.int .i64 (.ofNat 0))) fun v87 => bV (fLdN 9 v87 H) fun v88 => bM (fNew 51 [(.int .i64 (.ofNat 0)), (.str 0 0), (.str 0 0), (.int .i64 (.ofNat 0)), (.int .i64 (.ofNat 0)), (.str 0 0), (.int .i64 (.ofNat 0)), (.int .u8 (.ofNat 0)), (.int .i64 (.ofNat 0))] []) H fun v7 H => bE (fSt 9 v7 v88 H) H fun _ H => k (d7 E v7) H)
 (seqC (rg fun T E H k => bV (fFad 2 (t1 E)) fun v91 => bV (fLd1 v91 H) fun v92 => bV (fLdN 9 (t7 E) H) fun v93 => T 10 [(t2 E), v92, v93] H fun v94 H => bV (fExt 0 v94) fun v95 => bV (fExt 1 v94) fun v96 => k (d3 (d8 E v95) v96) H)
 (seqC (rg fun T E H k => bV (fFad 2 (t1 E)) fun v99 => bV (fLd1 v99 H) fun v100 => bV (oSlV 5 true false false [v100, (.int .i64 (.ofNat 1))]) fun v101 => bV (fLdN 9 (t7 E) H) fun v102 => T 10 [(t2 E), v101, v102] H fun v103 H => bV (fExt 0 v103) fun v104 => bV (fExt 1 v103) fun v105 => k (d10 E v105) H)
 (seqC (rg fun T E H k => bV (fLdN 9 (t7 E) H) fun v111 => T 9 [(.int .i64 (.ofNat 1))] H fun v108 H => agn (fLdN 9 (t7 E) H) v111 <| bV (fAgg [(.str 0 0), (.int .u8 (.ofNat 0)), (.int .i64 (.ofNat 0)), (.bool false), (.str 0 0)] [(0, 1), (1, 4)] [(.str 1 107), v108]) fun v109 => bM (fSlice 46 1 [(.str 0 0), (.int .u8 (.ofNat 0)), (.int .i64 (.ofNat 0)), (.bool false), (.str 0 0)] [(0, 5)] [v109]) H fun v110 H => T 10 [(t2 E), v110, v111] H fun v112 H => bV (fExt 0 v112) fun v113 => bV (fExt 1 v112) fun v114 => k (d12 E v114) H)
 (seqC (rg fun T E H k => bV (fFad 0 (t6 E)) fun v117 => bV (fLdN 5 v117 H) fun v118 => T 8 [(t2 E), v118, (.int .i64 (.ofNat 2)), (.str 1 98), (.int .i64 (.ofNat 2)), (.int .i64 (.ofNat 3))] H fun v119 H => bV (fExt 0 v119) fun v120 => bV (fExt 1 v119) fun v121 => bM (fNew 38 [(.int .i64 (.ofNat 0)), (.str 0 0), (.int .u8 (.ofNat 0)), .nils, .nils, (.int .i64 (.ofNat 0)), .nils] []) H fun v13 H => bE (fSt 7 v13 v120 H) H fun _ H => k (d14 (d13 E v13) v121) H)
 (seqC (rg fun T E H k => bV (fFad 0 (t6 E)) fun v124 => bV (fLdN 5 v124 H) fun v125 => T 8 [(t2 E), v125, (.int .i64 (.ofNat 2)), (.str 2 25393), (.int .i64 (.ofNat 2)), (.int .i64 (.ofNat 3))] H fun v126 H => bV (fExt 0 v126) fun v127 => bV (fExt 1 v126) fun v128 => bM (fNew 38 [(.int .i64 (.ofNat 0)), (.str 0 0), (.int .u8 (.ofNat 0)), .nils, .nils, (.int .i64 (.ofNat 0)), .nils] []) H fun v15 H => bE (fSt 7 v15 v127 H) H fun _ H => k (d16 (d15 E v15) v128) H)
 (seqC (rg fun T E H k => bV (fEql true .i (t3 E) (.int .i64 (.ofNat 0))) fun v130 => gdH v130 true H (fun rest => bV (some (t10 E)) fun v132 => rest v132 H) fun v132 H => gdH v130 true H (fun rest => bV (fEql true .i v132 (.int .i64 (.ofNat 100))) fun v133 => rest v133 H) fun v133 H => bV (fPick v130 v133 (.bool false)) fun v134 => gdH v134 true H (fun rest => bV (some (t12 E)) fun v136 => rest v136 H) fun v136 H => gdH v134 true H (fun rest => bV (fEql true .i v136 (.int .i64 (.ofNat 90))) fun v137 => rest v137 H) fun v137 H => bV (fPick v134 v137 (.bool false)) fun v138 => gdH v138 true H (fun rest => bV (some (t14 E)) fun v140 => rest v140 H) fun v140 H => gdH v138 true H (fun rest => bV (fEql true .i v140 (.int .i64 (.ofNat 0))) fun v141 => rest v141 H) fun v141 H => bV (fPick v138 v141 (.bool false)) fun v142 => gdH v142 true H (fun rest => bV (some (t16 E)) fun v144 => rest v144 H) fun v144 H => gdH v142 true H (fun rest => bV (fEql true .i v144 (.int .i64 (.ofNat 0))) fun v145 => rest v145 H) fun v145 H => bV (fPick v142 v145 (.bool false)) fun v146 => gdH v146 true H (fun rest => bV (some (t8 E)) fun v148 => rest v148 H) fun v148 H => gdH v146 true H (fun rest => bV (fLenV v148) fun v149 => rest v149 H) fun v149 H => gdH v146 true H (fun rest => bV (fEql true .i v149 (.int .i64 (.ofNat 3))) fun v150 => rest v150 H) fun v150 H => bV (fPick v146 v150 (.bool false)) fun v151 => gdH v151 true H (fun rest => bV (some (t8 E)) fun v153 => rest v153 H) fun v153 H => gdH v151 true H (fun rest => bV (fIaS 5 v153 (.int .i64 (.ofNat 0))) fun v154 => rest v154 H) fun v154 H => gdH v151 true H (fun rest => bV (fLdN 5 v154 H) fun v155 => rest v155 H) fun v155 H => gdH v151 true H (fun rest => bV (fAgg [(.str 0 0), (.int .u8 (.ofNat 0)), (.str 0 0), (.str 0 0), (.int .i64 (.ofNat 0))] [(0, 1), (1, 1), (2, 1), (3, 1)] [(.str 2 25394), (.int .u8 (.ofNat 2)), (.str 1 109), (.str 1 97)]) fun v156 => rest v156 H) fun v156 H => gdH v151 true H (fun rest => bV (fEql false (.agg [.s, .i, .s, .s, .i]) v155 v156) fun v157 => rest v157 H) fun v157 H => bV (fPick v151 v157 (.bool false)) fun v158 => gdH v158 true H (fun rest => bV (some (t8 E)) fun v160 => rest v160 H) fun v160 H => gdH v158 true H (fun rest => bV (fIaS 5 v160 (.int .i64 (.ofNat 1))) fun v161 => rest v161 H) fun v161 H => gdH v158 true H (fun rest => bV (fLdN 5 v161 H) fun v162 => rest v162 H) fun v162 H => gdH v158 true H (fun rest => bV (fAgg [(.str 0 0), (.int .u8 (.ofNat 0)), (.str 0 0), (.str 0 0), (.int .i64 (.ofNat 0))] [(0, 1), (1, 1), (4, 1)] [(.str 2 25393), (.int .u8 (.ofNat 1)), (.int .i64 (.ofNat 7))]) fun v163 => rest v163 H) fun v163 H => gdH v158 true H (fun rest => bV (fEql false (.agg [.s, .i, .s, .s, .i]) v162 v163) fun v164 => rest v164 H) fun v164 H => bV (fPick v158 v164 (.bool false)) fun v165 => gdH v165 true H (fun rest => bV (some (t8 E)) fun v167 => rest v167 H) fun v167 H => gdH v165 true H (fun rest => bV (fIaS 5 v167 (.int .i64 (.ofNat 2))) fun v168 => rest v168 H) fun v168 H => gdH v165 true H (fun rest => bV (fLdN 5 v168 H) fun v169 => rest v169 H) fun v169 H => gdH v165 true H (fun rest => bV (fAgg [(.str 0 0), (.int .u8 (.ofNat 0)), (.str 0 0), (.str 0 0), (.int .i64 (.ofNat 0))] [(0, 1), (1, 1), (2, 1)] [(.str 1 98), (.int .u8 (.ofNat 3)), (.str 2 26479)]) fun v170 => rest v170 H) fun v170 H => gdH v165 true H (fun rest => bV (fEql false (.agg [.s, .i, .s, .s, .i]) v169 v170) fun v171 => rest v171 H) fun v171 H => bV (fPick v165 v171 (.bool false)) fun v172 => gdH v172 true H (fun rest => bV (fFad 6 (t13 E)) fun v174 => rest v174 H) fun v174 H => gdH v172 true H (fun rest => bV (fLd1 v174 H) fun v175 => rest v175 H) fun v175 H => gdH v172 true H (fun rest => bM (fSlice 9 2 [(.str 0 0), (.str 0 0)] [(0, 1), (1, 1)] [(.str 3 6430791), (.str 2 25906)]) H fun v176 H => rest v176 H) fun v176 H => gdH v172 true H (fun rest => T 18 [v175, v176] H fun v177 H => rest v177 H) fun v177 H => bV (fPick v172 v177 (.bool false)) fun v178 => gdH v178 true H (fun rest => bV (fFad 6 (t15 E)) fun v180 => rest v180 H) fun v180 H => gdH v178 true H (fun rest => bV (fLd1 v180 H) fun v181 => rest v181 H) fun v181 H => gdH v178 true H (fun rest => bM (fSlice 9 3 [(.str 0 0), (.str 0 0), (.str 0 0)] [(0, 1), (1, 1), (2, 1)] [(.str 3 6500641), (.str 2 25649), (.str 1 101)]) H fun v182 H => rest v182 H) fun v182 H => gdH v178 true H (fun rest => T 18 [v181, v182] H fun v183 H => rest v183 H) fun v183 H => bV (fPick v178 v183 (.bool false)) fun v184 => k (d0 E v184) H)
 retC)))))))))))))))) [fun E _ => some (t0 E)]
def pl15 : Nat × List (Nat × Plan) := (49039857307708443467467104868800222468088687471963802128, [(13, ⟨[0, 1, 2, 3, 4, 5, 6, 7, 8, 9, 10], [0, 0, 2, 6, 0, 31, 63, 127, 127, 255, 1023]⟩), (14, ⟨[0, 4, 1, 2, 3, 5, 6, 7, 8, 9, 10], [0, 0, 2, 6, 0, 31, 63, 127, 127, 255, 1023]⟩)])
noncomputable def c16 : TT → FnC := fnC 0 ((seqC (rg fun T E H k => k (d0 E (.bool false)) H)
 (seqC (rg fun T E H k => T 39 [] H fun v12 H => T 5 [v12] H fun v13 H => bV (fExt 0 v13) fun v14 => bV (fExt 1 v13) fun v15 => k (d2 (d1 E v14) v15) H)
 (seqC (rg fun T E H k => bV (fAgg [(.str 0 0), (.str 0 0), (.int .u8 (.ofNat 0)), (.str 0 0), (.str 0 0), (.str 0 0), (.int .u8 (.ofNat 0)), (.str 0 0), (.str 0 0), (.int .i64 (.ofNat 0)), (.int .i64 (.ofNat 0))] [(0, 1), (2, 1)] [(.str 1 115), (.int .u8 (.ofNat 1))]) fun v17 => bV (fAgg [(.str 0 0), (.str 0 0), (.int .u8 (.ofNat 0)), (.str 0 0), (.str 0 0), (.str 0 0), (.int .u8 (.ofNat 0)), (.str 0 0), (.str 0 0), (.int .i64 (.ofNat 0)), (.int .i64 (.ofNat 0))] [(0, 1), (2, 1), (10, 1)] [(.str 1 119), (.int .u8 (.ofNat 4)), (.int .i64 (.ofNat 2))]) fun v18 => bV (fAgg [(.str 0 0), (.str 0 0), (.int .u8 (.ofNat 0)), (.str 0 0), (.str 0 0), (.str 0 0), (.int .u8 (.ofNat 0)), (.str 0 0), (.str 0 0), (.int .i64 (.ofNat 0)), (.int .i64 (.ofNat 0))] [(0, 1), (2, 1)] [(.str 1 101), (.int .u8 (.ofNat 2))]) fun v19 => bM (fSlice 67 3 [(.str 0 0), (.str 0 0), (.int .u8 (.ofNat 0)), (.str 0 0), (.str 0 0), (.str 0 0), (.int .u8 (.ofNat 0)), (.str 0 0), (.str 0 0), (.int .i64 (.ofNat 0)), (.int .i64 (.ofNat 0)), (.str 0 0), (.str 0 0), (.int .u8 (.ofNat 0)), (.str 0 0), (.str 0 0), (.str 0 0), (.int .u8 (.ofNat 0)), (.str 0 0), (.str 0 0), (.int .i64 (.ofNat 0)), (.int .i64 (.ofNat 0)), (.str 0 0), (.str 0 0), (.int .u8 (.ofNat 0)), (.str 0 0), (.str 0 0), (.str 0 0), (.int .u8 (.ofNat 0)), (.str 0 0), (.str 0 0), (.int .i64 (.ofNat 0)), (.int .i64 (.ofNat 0))] [(0, 11), (11, 11), (22, 11)] [v17, v18, v19]) H fun v20 H => bV (fAgg [(.str 0 0), (.str 0 0), (.str 0 0), (.str 0 0)] [(0, 1), (1, 1), (2, 1)] [(.str 1 102), (.str 1 115), (.str 1 119)]) fun v21 => bV (fAgg [(.str 0 0), (.str 0 0), (.str 0 0), (.str 0 0)] [(0, 1), (1, 1), (2, 1)] [(.str 1 103), (.str 1 119), (.str 1 101)]) fun v22 => bM (fSlice 70 2 [(.str 0 0), (.str 0 0), (.str 0 0), (.str 0 0), (.str 0 0), (.str 0 0), (.str 0 0), (.str 0 0)] [(0, 4), (4, 4)] [v21, v22]) H fun v23 H => bV (fAgg [(.str 0 0), (.str 0 0), .nils, .nils, .nils] [(0, 1), (3, 1), (4, 1)] [(.str 1 106), v20, v23]) fun v24 => T 5 [v24] H fun v25 H => bV (fExt 0 v25) fun v26 => bV (fExt 1 v25) fun v27 => k (d4 (d3 E v26) v27) H)
 (seqC (seqC (rg fun T E H k => bV (fNeq true .i (t2 E) (.int .i64 (.ofNat 0))) fun v29 => gdH v29 false H (fun rest => bV (some (t4 E)) fun v31 => rest v31 H) fun v31 H => gdH v29 false H (fun rest => bV (fNeq true .i v31 (.int .i64 (.ofNat 0))) fun v32 => rest v32 H) fun v32 H => bV (fPick v29 (.bool true) v32) fun v33 => k (d33 E v33) H)
 (condF t33
 (seqC (rg fun T E H k => k (d0 E (.bool false)) H)
 retC)
 skipC))
 (seqC (rg fun T E H k => bV (fAgg [(.int .i64 (.ofNat 0)), (.str 0 0), (.str 0 0), (.int .i64 (.ofNat 0)), (.int .i64 (.ofNat 0)), (.str 0 0), (.int .i64 (.ofNat 0)), (.int .u8 (.ofNat 0)), (.int .i64 (.ofNat 0))] [(0, 1), (2, 1)] [(.int .i64 (.ofNat 2)), (.str 2 26164)]) fun v34 => bV (fAgg [(.int .i64 (.ofNat 0)), (.str 0 0), (.str 0 0), (.int .i64 (.ofNat 0)), (.int .i64 (.ofNat 0)), (.str 0 0), (.int .i64 (.ofNat 0)), (.int .u8 (.ofNat 0)), (.int .i64 (.ofNat 0))] [(0, 1), (2, 1)] [(.int .i64 (.ofNat 3)), (.str 2 26165)]) fun v35 => bM (fSlice 51 2 [(.int .i64 (.ofNat 0)), (.str 0 0), (.str 0 0), (.int .i64 (.ofNat 0)), (.int .i64 (.ofNat 0)), (.str 0 0), (.int .i64 (.ofNat 0)), (.int .u8 (.ofNat 0)), (.int .i64 (.ofNat 0)), (.int .i64 (.ofNat 0)), (.str 0 0), (.str 0 0), (.int .i64 (.ofNat 0)), (.int .i64 (.ofNat 0)), (.str 0 0), (.int .i64 (.ofNat 0)), (.int .u8 (.ofNat 0)), (.int .i64 (.ofNat 0))] [(0, 9), (9, 9)] [v34, v35]) H fun v36 H => bV (fAgg [(.int .i64 (.ofNat 0)), (.str 0 0), (.int .u8 (.ofNat 0)), .nils, .nils] [(0, 1), (1, 1), (2, 1), (4, 1)] [(.int .i64 (.ofNat 1)), (.str 1 112), (.int .u8 (.ofNat 1)), v36]) fun v37 => bM (fNew 35 [(.int .i64 (.ofNat 0)), (.str 0 0), (.int .u8 (.ofNat 0)), .nils, .nils] []) H fun v5 H => bE (fSt 5 v5 v37 H) H fun _ H => k (d5 E v5) H)
 (seqC (rg fun T E H k => bV (fAgg [(.int .i64 (.ofNat 0)), (.str 0 0), (.str 0 0), (.int .i64 (.ofNat 0)), (.int .i64 (.ofNat 0)), (.str 0 0), (.int .i64 (.ofNat 0)), (.int .u8 (.ofNat 0)), (.int .i64 (.ofNat 0))] [(0, 1), (1, 1), (7, 1)] [(.int .i64 (.ofNat 2)), (.str 1 119), (.int .u8 (.ofNat 2))]) fun v38 => bM (fSlice 51 1 [(.int .i64 (.ofNat 0)), (.str 0 0), (.str 0 0), (.int .i64 (.ofNat 0)), (.int .i64 (.ofNat 0)), (.str 0 0), (.int .i64 (.ofNat 0)), (.int .u8 (.ofNat 0)), (.int .i64 (.ofNat 0))] [(0, 9)] [v38]) H fun v39 H => bV (fAgg [(.int .i64 (.ofNat 0)), (.str 0 0), (.int .u8 (.ofNat 0)), .nils, .nils] [(0, 1), (1, 1), (2, 1), (4, 1)] [(.int .i64 (.ofNat 1)), (.str 1 106), (.int .u8 (.ofNat 1)), v39]) fun v40 => bM (fNew 35 [(.int .i64 (.ofNat 0)), (.str 0 0), (.int .u8 (.ofNat 0)), .nils, .nils] []) H fun v6 H => bE (fSt 5 v6 v40 H) H fun _ H => k (d6 E v6) H)
 (seqC (rg fun T E H k => bV (fLdN 5 (t6 E) H) fun v43 => T 8 [(t3 E), v43, (.int .i64 (.ofNat 2)), (.str 1 119), (.int .i64 (.ofNat 2)), (.int .i64 (.ofNat 0))] H fun v44 H => bV (fExt 0 v44) fun v45 => bV (fExt 1 v44) fun v46 => bM (fNew 38 [(.int .i64 (.ofNat 0)), (.str 0 0), (.int .u8 (.ofNat 0)), .nils, .nils, (.int .i64 (.ofNat 0)), .nils] []) H fun v7 H => bE (fSt 7 v7 v45 H) H fun _ H => k (d8 E v46) H)
 (seqC (rg fun T E H k => bV (fFad 4 (t6 E)) fun v47 => bV (fLd1 v47 H) fun v48 => bV (fAgg [(.int .i64 (.ofNat 0)), (.str 0 0), (.str 0 0), (.int .i64 (.ofNat 0)), (.int .i64 (.ofNat 0)), (.str 0 0), (.int .i64 (.ofNat 0)), (.int .u8 (.ofNat 0)), (.int .i64 (.ofNat 0))] [(0, 1), (1, 1), (4, 1)] [(.int .i64 (.ofNat 2)), (.str 1 119), (.int .i64 (.ofNat 1))]) fun v49 => bV (fIaS 9 v48 (.int .i64 (.ofNat 0))) fun v50 => bE (fSt 9 v50 v49 H) H fun _ H => k E H)
 (seqC (rg fun T E H k => bV (fLdN 5 (t6 E) H) fun v53 => T 8 [(t3 E), v53, (.int .i64 (.ofNat 2)), (.str 1 119), (.int .i64 (.ofNat 2)), (.int .i64 (.ofNat 0))] H fun v54 H => bV (fExt 0 v54) fun v55 => bV (fExt 1 v54) fun v56 => bM (fNew 38 [(.int .i64 (.ofNat 0)), (.str 0 0), (.int .u8 (.ofNat 0)), .nils, .nils, (.int .i64 (.ofNat 0)), .nils] []) H fun v9 H => bE (fSt 7 v9 v55 H) H fun _ H => k (d10 (d9 E v9) v56) H)
 (seqC (rg fun T E H k => bV (fLdN 5 (t5 E) H) fun v58 => T 11 [(t1 E), v58, (.int .i64 (.ofNat 3)), (.int .i64 (.ofNat 0))] H fun v59 H => bV (fEql true .i v59 (.int .i64 (.ofNat 1))) fun v60 => gdH v60 true H (fun rest => bV (some (t1 E)) fun v62 => rest v62 H) fun v62 H => gdH v60 true H (fun rest => bV (fFad 4 (t5 E)) fun v63 => rest v63 H) fun v63 H => gdH v60 true H (fun rest => bV (fLd1 v63 H) fun v64 => rest v64 H) fun v64 H => gdH v60 true H (fun rest => bV (oSlV 9 false true false [v64, (.int .i64 (.ofNat 1))]) fun v65 => rest v65 H) fun v65 H => gdH v60 true H (fun rest => bV (fAgg [(.int .i64 (.ofNat 0)), (.str 0 0), (.int .u8 (.ofNat 0)), .nils, .nils] [(0, 1), (1, 1), (2, 1), (4, 1)] [(.int .i64 (.ofNat 1)), (.str 1 112), (.int .u8 (.ofNat 1)), v65]) fun v66 => rest v66 H) fun v66 H => gdH v60 true H (fun rest => T 11 [v62, v66, (.int .i64 (.ofNat 3)), (.int .i64 (.ofNat 0))] H fun v67 H => rest v67 H) fun v67 H => gdH v60 true H (fun rest => bV (fEql true .i v67 (.int .i64 (.ofNat 0))) fun v68 => rest v68 H) fun v68 H => bV (fPick v60 v68 (.bool false)) fun v69 => gdH v69 true H (fun rest => bV (some (t8 E)) fun v71 => rest v71 H) fun v71 H => gdH v69 true H (fun rest => bV (fEql true .i v71 (.int .i64 (.ofNat 1))) fun v72 => rest v72 H) fun v72 H => bV (fPick v69 v72 (.bool false)) fun v73 => gdH v73 true H (fun rest => bV (some (t10 E)) fun v75 => rest v75 H) fun v75 H => gdH v73 true H (fun rest => bV (fEql true .i v75 (.int .i64 (.ofNat 0))) fun v76 => rest v76 H) fun v76 H => bV (fPick v73 v76 (.bool false)) fun v77 => gdH v77 true H (fun rest => bV (fFad 0 (t9 E)) fun v79 => rest v79 H) fun v79 H => gdH v77 true H (fun rest => bV (fFad 2 v79) fun v80 => rest v80 H) fun v80 H => gdH v77 true H (fun rest => bV (fLd1 v80 H) fun v81 => rest v81 H) fun v81 H => gdH v77 true H (fun rest => bV (fEql true .i v81 (.int .u8 (.ofNat 2))) fun v82 => rest v82 H) fun v82 H => bV (fPick v77 v82 (.bool false)) fun v83 => k (d0 E v83) H)
 retC))))))))))) [fun E _ => some (t0 E)]
def pl16 : Nat × List (Nat × Plan) := (19342813113834058205362304, [])
noncomputable def c17 : TT → FnC := fnC 1 ((seqC (rg fun T E H k => k (d2 E (.int .i64 (.ofNat 0))) H)
 (seqC (rg fun T E H k => bV (fAgg [(.str 0 0), (.str 0 0), (.int .u8 (.ofNat 0)), (.str 0 0), (.str 0 0), (.str 0 0), (.int .u8 (.ofNat 0)), (.str 0 0), (.str 0 0), (.int .i64 (.ofNat 0)), (.int .i64 (.ofNat 0))] [(0, 1), (2, 1)] [(.str 1 115), (.int .u8 (.ofNat 1))]) fun v11 => bM (fSlice 67 1 [(.str 0 0), (.str 0 0), (.int .u8 (.ofNat 0)), (.str 0 0), (.str 0 0), (.str 0 0), (.int .u8 (.ofNat 0)), (.str 0 0), (.str 0 0), (.int .i64 (.ofNat 0)), (.int .i64 (.ofNat 0))] [(0, 11)] [v11]) H fun v12 H => bV (fAgg [(.str 0 0), (.str 0 0), .nils, .nils, .nils] [(0, 1), (3, 1)] [(.str 1 112), v12]) fun v13 => bM (fNew 31 [(.str 0 0), (.str 0 0), .nils, .nils, .nils] []) H fun v3 H => bE (fSt 5 v3 v13 H) H fun _ H => k (d3 E v3) H)
 (seqC (rg fun T E H k => bM (fNew 9 [(.str 0 0)] []) H fun v4 H => bE (fSt 1 v4 (.str 1 115) H) H fun _ H => k (d4 E v4) H)
 (seqC (rg fun T E H k => bV (oFn (.func 42) 0 [(t3 E), (t4 E)]) fun v14 => bM (fNew 95 [.nilf] []) H fun v5 H => bE (fSt 1 v5 v14 H) H fun _ H => k (d5 E v5) H)
 (seqC (rg fun T E H k => bV (oFn (.func 43) 0 [(t3 E), (t5 E), (t4 E)]) fun v15 => k (d6 E v15) H)
 (seqC (seqC (rg fun T E H k => k (d7 E (.int .i64 (.ofNat 0))) H)
 (blockC 0 (loopC (seqC (seqC (rg fun T E H k => bV (fLss (t7 E) (t0 E)) fun v18 => k (d18 E v18) H)
 (condF t18
 skipC
 (exitC 0)))
 (seqC (blockC 1 (rg fun T E H k => onFnV [(t6 E), (.int .u8 (.ofNat 5))] fun f l => T f l H fun v22 H => k E H))
 (rg fun T E H k => bV (fAdd (t7 E) (.int .i64 (.ofNat 1))) fun v20 => k (d7 E v20) H))))))
 (seqC (seqC (rg fun T E H k => k (d8 E (.int .i64 (.ofNat 0))) H)
 (blockC 2 (loopC (seqC (seqC (rg fun T E H k => bV (fLss (t8 E) (.int .i64 (.ofNat 8))) fun v24 => k (d24 E v24) H)
 (condF t24
 skipC
 (exitC 2)))
 (seqC (blockC 3 (seqC (rg fun T E H k => onFnV [(t6 E), (.int .u8 (.ofNat 6))] fun f l => T f l H fun v28 H => k E H)
 (rg fun T E H k => onFnV [(t6 E), (.int .u8 (.ofNat 5))] fun f l => T f l H fun v30 H => k E H)))
 (rg fun T E H k => bV (fAdd (t8 E) (.int .i64 (.ofNat 1))) fun v26 => k (d8 E v26) H))))))
 (seqC (rg fun T E H k => onFnV [(t6 E), (.int .u8 (.ofNat 2))] fun f l => T f l H fun v32 H => k E H)
 (seqC (rg fun T E H k => bV (fLdN 5 (t3 E) H) fun v34 => T 5 [v34] H fun v35 H => bV (fExt 0 v35) fun v36 => bV (fExt 1 v35) fun v37 => k (d10 (d9 E v36) v37) H)
 (seqC (seqC (rg fun T E H k => bV (fNeq true .i (t10 E) (.int .i64 (.ofNat 0))) fun v39 => k (d39 E v39) H)
 (condF t39
 (seqC (rg fun T E H k => k (d2 E (t10 E)) H)
 retC)
 skipC))
 (seqC (rg fun T E H k => T 7 [(t9 E), .nils, (.int .i64 (.ofNat 0)), (.int .i64 (.ofNat 0))] H fun v43 H => bV (fExt 0 v43) fun v44 => bV (fExt 1 v43) fun v45 => k (d10 E v45) H)
 (seqC (rg fun T E H k => k (d2 E (t10 E)) H)
 retC))))))))))))) [fun E _ => some (t2 E)]
def pl17 : Nat × List (Nat × Plan) := (140187715500032, [])
noncomputable def c18 : TT → FnC := fnC 2 ((seqC (rg fun T E H k => k (d4 E (.bool false)) H)
 (seqC (seqC (rg fun T E H k => bV (fLenV (t0 E)) fun v7 => bV (fLenV (t1 E)) fun v9 => bV (fNeq false .i v7 v9) fun v10 => k (d10 E v10) H)
 (condF t10
 (seqC (rg fun T E H k => k (d4 E (.bool false)) H)
 retC)
 skipC))
 (seqC (seqC (rg fun T E H k => k (d5 E (.int .i64 (.ofNat 0))) H)
 (blockC 0 (loopC (seqC (seqC (rg fun T E H k => bV (fLenV (t0 E)) fun v13 => bV (fLss (t5 E) v13) fun v14 => k (d14 E v14) H)
 (condF t14
 skipC
 (exitC 0)))
 (seqC (blockC 1 (seqC (rg fun T E H k => bV (fIaS 1 (t0 E) (t5 E)) fun v19 => bV (fLd1 v19 H) fun v20 => bV (fIaS 1 (t1 E) (t5 E)) fun v23 => bV (fLd1 v23 H) fun v24 => bV (fNeq false .s v20 v24) fun v25 => k (d25 E v25) H)
 (condF t25
 (seqC (rg fun T E H k => k (d4 E (.bool false)) H)
 retC)
 skipC)))
 (rg fun T E H k => bV (fAdd (t5 E) (.int .i64 (.ofNat 1))) fun v16 => k (d5 E v16) H))))))
 (seqC (rg fun T E H k => k (d4 E (.bool true)) H)
 retC))))) [fun E _ => some (t4 E)]
def pl18 : Nat × List (Nat × Plan) := (33536960, [(6, ⟨[0, 1, 2, 3, 4, 5, 6, 7, 8], [0, 0, 3, 7, 0, 0, 48, 112, 255]⟩)])
noncomputable def c19 : TT → FnC := fnC 1 ((seqC (rg fun T E H k => bM (fBox 31 5 (t0 E)) H fun v1 H => k (d4 (d3 (d2 (d1 E v1) (.int .i64 (.ofNat 0))) (.str 0 0)) (.int .i64 (.ofNat 0))) H)
 (seqC (rg fun T E H k => bV (fLdN 5 (t1 E) H) fun v10 => T 44 [v10] H fun v11 H => k (d5 E v11) H)
 (seqC (seqC (rg fun T E H k => bM (fSlice 101 9 [.nilf, .nilf, .nilf, .nilf, .nilf, .nilf, .nilf, .nilf, .nilf] [(0, 1), (1, 1), (2, 1), (3, 1), (4, 1), (5, 1), (6, 1), (7, 1), (8, 1)] [(.fn (.func 45) [] []), (.fn (.func 46) [] []), (.fn (.func 47) [] []), (.fn (.func 48) [] []), (.fn (.func 49) [] []), (.fn (.func 50) [] []), (.fn (.func 51) [] []), (.fn (.func 52) [] []), (.fn (.func 53) [] [])]) H fun v12 H => bV (fLenV v12) fun v13 => k (d14 (d13 (d12 E v12) v13) (.int .i64 (.ofNat 0))) H)
 (blockC 0 (loopC (seqC (rg fun T E H k => bV (fLss (t14 E) (t13 E)) fun v15 => k (d15 E v15) H)
 (seqC (condF t15
 skipC
 (exitC 0))
 (seqC (blockC 1 (seqC (rg fun T E H k => bV (fIaS 1 (t12 E) (t14 E)) fun v17 => bV (fLd1 v17 H) fun v18 => k (d7 (d6 E (t14 E)) v18) H)
 (seqC (rg fun T E H k => onFnV [(t7 E), (t5 E)] fun f l => T f l H fun v22 H => bV (fExt 0 v22) fun v23 => bV (fExt 1 v22) fun v24 => k (d9 (d8 E v23) v24) H)
 (seqC (rg fun T E H k => k (d25 E (t9 E)) H)
 (condF t25
 (seqC (rg fun T E H k => bV (fAdd (t6 E) (.int .i64 (.ofNat 1))) fun v27 => k (d4 (d3 (d2 E v27) (t8 E)) (.int .i64 (.ofNat 140))) H)
 retC)
 skipC)))))
 (rg fun T E H k => bV (fAdd (t14 E) (.int .i64 (.ofNat 1))) fun v29 => k (d14 E v29) H)))))))
 (seqC (rg fun T E H k => k (d4 (d3 (d2 E (.int .i64 (.ofNat 0))) (.str 0 0)) (.int .i64 (.ofNat 0))) H)
 retC))))) [fun E _ => some (t2 E), fun E _ => some (t3 E), fun E _ => some (t4 E)]
def pl19 : Nat × List (Nat × Plan) := (1040124928, [])
noncomputable def c20 : TT → FnC := fnC 1 ((seqC (rg fun T E H k => bM (fBox 31 5 (t0 E)) H fun v1 H => bM (fNew 31 [(.str 0 0), (.str 0 0), .nils, .nils, .nils] []) H fun v2 H => k (d2 (d1 E v1) v2) H)
 (seqC (rg fun T E H k => bV (fFad 2 (t1 E)) fun v3 => bV (fLd1 v3 H) fun v4 => bV (fFad 3 (t1 E)) fun v6 => bV (fLd1 v6 H) fun v7 => bV (fFad 4 (t1 E)) fun v9 => bV (fLd1 v9 H) fun v10 => T 54 [v4] H fun v5 H => agn (fLd1 v9 H) v10 <| agn (fLd1 v6 H) v7 <| bV (fFad 2 (t1 E)) fun v12 => T 55 [v7] H fun v8 H => agn (fLd1 v9 H) v10 <| T 56 [v10] H fun v11 H => bE (fSt 1 v12 v5 H) H fun _ H => bV (fFad 3 (t1 E)) fun v13 => bE (fSt 1 v13 v8 H) H fun _ H => bV (fFad 4 (t1 E)) fun v14 => bE (fSt 1 v14 v11 H) H fun _ H => k E H)
 (seqC (rg fun T E H k => bV (fLdN 5 (t1 E) H) fun v15 => bE (fSt 5 (t2 E) v15 H) H fun _ H => k E H)
 retC)))) [fun E H => onPtr (t2 E) fun id off => onOpt (loadN H id off 5) fun l => some (.agg l)]
def pl20 : Nat × List (Nat × Plan) := (65528, [(1, ⟨[0, 1, 3, 4, 6, 7, 2, 9, 5, 8, 10, 11, 12, 13, 14], [0, 1, 3, 0, 8, 31, 0, 64, 255, 223, 1023, 2047, 4095, 8191, 16383]⟩)])
noncomputable def c21 : TT → FnC := fnC 2 ((seqC (rg fun T E H k => bM (fBox 31 5 (t0 E)) H fun v2 H => bM (fBox 9 1 (t1 E)) H fun v3 H => k (d4 (d3 (d2 E v2) v3) .nils) H)
 (seqC (rg fun T E H k => bV (fLdN 5 (t2 E) H) fun v5 => bV (oFn (.func 58) 0 [(t3 E)]) fun v6 => T 57 [v5, v6] H fun v7 H => k (d4 E v7) H)
 retC))) [fun E _ => some (t4 E)]
def pl21 : Nat × List (Nat × Plan) := (224, [])
noncomputable def c22 : TT → FnC := fnC 2 ((seqC (rg fun T E H k => bM (fBox 31 5 (t0 E)) H fun v2 H => bM (fBox 9 1 (t1 E)) H fun v3 H => k (d4 (d3 (d2 E v2) v3) .nils) H)
 (seqC (rg fun T E H k => bV (fLdN 5 (t2 E) H) fun v5 => bV (oFn (.func 59) 0 [(t3 E)]) fun v6 => T 57 [v5, v6] H fun v7 H => k (d4 E v7) H)
 retC))) [fun E _ => some (t4 E)]
def pl22 : Nat × List (Nat × Plan) := (224, [])
noncomputable def c23 : TT → FnC := fnC 1 ((seqC (rg fun T E H k => bM (fNew 73 [(.int .u8 (.ofNat 0)), (.int .u8 (.ofNat 0)), (.int .i64 (.ofNat 0)), (.bool false), (.str 0 0), (.str 0 0), .nils] []) H fun v2 H => k (d4 (d3 (d2 E v2) (.int .i64 (.ofNat 0))) (.int .i64 (.ofNat 0))) H)
 (seqC (seqC (rg fun T E H k => bV (fLenS (t0 E)) fun v13 => bV (fGtr v13 (.int .i64 (.ofNat 256))) fun v14 => k (d14 E v14) H)
 (condF t14
 (seqC (rg fun T E H k => bV (fAgg [(.int .u8 (.ofNat 0)), (.int .u8 (.ofNat 0)), (.int .i64 (.ofNat 0)), (.bool false), (.str 0 0), (.str 0 0), .nils] [] []) fun v15 => bE (fSt 7 (t2 E) v15 H) H fun _ H => k (d4 (d3 E (.int .i64 (.ofNat 0))) (.int .i64 (.ofNat 3))) H)
 retC)
 skipC))
 (seqC (rg fun T E H k => bV (fAgg [(.str 0 0), (.int .i64 (.ofNat 0)), (.int .u8 (.ofNat 0)), (.int .u8 (.ofNat 0)), (.int .i64 (.ofNat 0)), (.bool false), (.str 0 0), (.str 0 0), .nils, (.str 0 0), (.int .i64 (.ofNat 0)), (.bool false), (.int .i64 (.ofNat 0)), (.int .i64 (.ofNat 0))] [(0, 1)] [(t0 E)]) fun v17 => bM (fBox 112 14 v17) H fun v18 H => bM (fNew 108 [.nilp] []) H fun v5 H => bE (fSt 1 v5 v18 H) H fun _ H => k (d5 E v5) H)
 (seqC (rg fun T E H k => bV (fLd1 (t5 E) H) fun v19 => T 60 [v19] H fun v20 H => k E H)
 (seqC (rg fun T E H k => bM (fNew 113 [.nilf] []) H fun v6 H => k (d6 E v6) H)
 (seqC (rg fun T E H k => bV (oFn (.func 61) 0 [(t5 E), (t6 E)]) fun v21 => bM (fNew 114 [.nilf] []) H fun v7 H => bE (fSt 1 v7 v21 H) H fun _ H => k (d7 E v7) H)
 (seqC (rg fun T E H k => bV (oFn (.func 62) 0 [(t5 E)]) fun v22 => bM (fNew 116 [.nilf] []) H fun v8 H => bE (fSt 1 v8 v22 H) H fun _ H => k (d8 E v8) H)
 (seqC (rg fun T E H k => bV (oFn (.func 64) 0 [(t5 E), (t6 E)]) fun v23 => bM (fNew 116 [.nilf] []) H fun v9 H => bE (fSt 1 v9 v23 H) H fun _ H => k (d9 E v9) H)
 (seqC (rg fun T E H k => bV (oFn (.func 65) 0 [(t5 E), (t7 E), (t9 E), (t8 E)]) fun v24 => bM (fNew 113 [.nilf] []) H fun v10 H => bE (fSt 1 v10 v24 H) H fun _ H => k (d10 E v10) H)
 (seqC (rg fun T E H k => bV (oFn (.func 66) 0 [(t5 E), (t10 E), (t6 E)]) fun v25 => bE (fSt 1 (t6 E) v25 H) H fun _ H => k E H)
 (seqC (rg fun T E H k => bV (fLd1 (t6 E) H) fun v26 => onFnV [v26, (.int .i64 (.ofNat 1))] fun f l => T f l H fun v27 H => bM (fNew 73 [(.int .u8 (.ofNat 0)), (.int .u8 (.ofNat 0)), (.int .i64 (.ofNat 0)), (.bool false), (.str 0 0), (.str 0 0), .nils] []) H fun v11 H => bE (fSt 7 v11 v27 H) H fun _ H => k (d11 E v11) H)
 (seqC (seqC (rg fun T E H k => bV (fLd1 (t5 E) H) fun v28 => bV (fNilchk v28) fun v29 => bV (fFad 2 v29) fun v30 => bV (fFad 9 v30) fun v31 => bV (fLd1 v31 H) fun v32 => bV (fNot v32) fun v33 => k (d33 E v33) H)
 (condF t33
 (rg fun T E H k => bV (fLd1 (t5 E) H) fun v34 => bV (fLd1 (t5 E) H) fun v35 => bV (fNilchk v35) fun v36 => bV (fFad 2 v36) fun v37 => bV (fFad 8 v37) fun v38 => bV (fLd1 v38 H) fun v39 => T 63 [v34, (.int .i64 (.ofNat 4)), v39] H fun v40 H => k E H)
 skipC))
 (seqC (seqC (rg fun T E H k => bV (fLd1 (t5 E) H) fun v41 => bV (fNilchk v41) fun v42 => bV (fFad 12 v42) fun v43 => bV (fLd1 v43 H) fun v44 => bV (fNeq true .i v44 (.int .i64 (.ofNat 0))) fun v45 => k (d45 E v45) H)
 (condF t45
 (seqC (rg fun T E H k => bV (fAgg [(.int .u8 (.ofNat 0)), (.int .u8 (.ofNat 0)), (.int .i64 (.ofNat 0)), (.bool false), (.str 0 0), (.str 0 0), .nils] [] []) fun v46 => bV (fLd1 (t5 E) H) fun v47 => bV (fNilchk v47) fun v48 => bV (fFad 13 v48) fun v49 => bV (fLd1 v49 H) fun v50 => bV (fLd1 (t5 E) H) fun v51 => bV (fNilchk v51) fun v52 => bV (fFad 12 v52) fun v53 => bV (fLd1 v53 H) fun v54 => bE (fSt 7 (t2 E) v46 H) H fun _ H => agn (fLd1 v53 H) v54 <| agn (fLd1 (t5 E) H) v51 <| agn (fLd1 v49 H) v50 <| agn (fLd1 (t5 E) H) v47 <| k (d4 (d3 E v50) v54) H)
 retC)
 skipC))
 (seqC (rg fun T E H k => bV (fLdN 7 (t11 E) H) fun v55 => bE (fSt 7 (t2 E) v55 H) H fun _ H => k (d4 (d3 E (.int .i64 (.ofNat 0))) (.int .i64 (.ofNat 0))) H)
 retC))))))))))))))) [fun E H => onPtr (t2 E) fun id off => onOpt (loadN H id off 7) fun l => some (.agg l), fun E _ => some (t3 E), fun E _ => some (t4 E)]
def pl23 : Nat × List (Nat × Plan) := (72022401075884032, [(13, ⟨[0, 1, 2, 3, 4, 5, 6], [0, 0, 2, 6, 14, 30, 63]⟩), (15, ⟨[0, 1, 2, 3, 4, 5, 6, 7, 8, 9, 10, 11], [0, 0, 2, 6, 14, 0, 32, 96, 224, 1, 543, 2047]⟩)])
noncomputable def c24 : TT → FnC := fnC 2 ((seqC (rg fun T E H k => k (d4 E (.bool false)) H)
 (seqC (rg fun T E H k => bV (fNilchk (t0 E)) fun v7 => bV (fFad 0 v7) fun v8 => bV (fFad 2 v8) fun v9 => bV (fLd1 v9 H) fun v10 => T 68 [(t1 E), v10, (.fn (.func 69) [] [])] H fun v11 H => k (d4 E v11) H)
 retC))) [fun E _ => some (t4 E)]
def pl24 : Nat × List (Nat × Plan) := (4064, [])
noncomputable def c25 : TT → FnC := fnC 2 ((seqC (rg fun T E H k => k (d4 E (.int .i64 (.ofNat 0))) H)
 (seqC (seqC (rg fun T E H k => bV (fLenV (t0 E)) fun v7 => k (d8 (d7 E v7) (.int .i64 (.ofNat 0))) H)
 (blockC 0 (loopC (seqC (rg fun T E H k => bV (fLss (t8 E) (t7 E)) fun v9 => k (d9 E v9) H)
 (seqC (condF t9
 skipC
 (exitC 0))
 (seqC (blockC 1 (seqC (rg fun T E H k => k (d5 E (t8 E)) H)
 (seqC (rg fun T E H k => bV (fIaS 11 (t0 E) (t5 E)) fun v14 => bV (fLdN 11 v14 H) fun v15 => onFnV [(t1 E), v15] fun f l => T f l H fun v16 H => k (d16 E v16) H)
 (condF t16
 (seqC (rg fun T E H k => k (d4 E (t5 E)) H)
 retC)
 skipC))))
 (rg fun T E H k => bV (fAdd (t8 E) (.int .i64 (.ofNat 1))) fun v18 => k (d8 E v18) H)))))))
 (seqC (rg fun T E H k => k (d4 E (.int .i64 (.negSucc 0))) H)
 retC)))) [fun E _ => some (t4 E)]
def pl25 : Nat × List (Nat × Plan) := (457792, [])
noncomputable def c26 : TT → FnC := fnC 1 ((seqC (rg fun T E H k => bM (fBox 67 11 (t0 E)) H fun v1 H => k (d2 (d1 E v1) (.bool false)) H)
 (seqC (rg fun T E H k => bV (fFad 2 (t1 E)) fun v3 => bV (fLd1 v3 H) fun v4 => bV (fEql true .i v4 (.int .u8 (.ofNat 1))) fun v5 => gdH v5 true H (fun rest => bV (fFad 3 (t1 E)) fun v7 => rest v7 H) fun v7 H => gdH v5 true H (fun rest => bV (fLd1 v7 H) fun v8 => rest v8 H) fun v8 H => gdH v5 true H (fun rest => bV (fEql true .s v8 (.str 0 0)) fun v9 => rest v9 H) fun v9 H => bV (fPick v5 v9 (.bool false)) fun v10 => k (d2 E v10) H)
 retC))) [fun E _ => some (t2 E)]
def pl26 : Nat × List (Nat × Plan) := (2040, [])
noncomputable def c27 : TT → FnC := fnC 7 ((seqC (rg fun T E H k => bM (fBox 35 5 (t1 E)) H fun v8 H => bM (fNew 38 [(.int .i64 (.ofNat 0)), (.str 0 0), (.int .u8 (.ofNat 0)), .nils, .nils, (.int .i64 (.ofNat 0)), .nils] []) H fun v14 H => k (d15 (d14 (d8 E v8) v14) (.int .i64 (.ofNat 0))) H)
 (seqC (rg fun T E H k => bV (fFad 3 (t8 E)) fun v23 => bV (fLd1 v23 H) fun v24 => bV (fAgg [.nilp, .nils, .nils, .nils, .nils, (.int .i64 (.ofNat 0))] [(0, 1), (1, 1), (4, 1)] [(t0 E), v24, (t4 E)]) fun v26 => bM (fBox 128 6 v26) H fun v27 H => k (d16 E v27) H)
 (seqC (seqC (rg fun T E H k => bV (fLenV (t2 E)) fun v29 => k (d30 (d29 (d28 E (t2 E)) v29) (.int .i64 (.ofNat 0))) H)
 (blockC 0 (loopC (seqC (rg fun T E H k => bV (fLss (t30 E) (t29 E)) fun v31 => k (d31 E v31) H)
 (seqC (condF t31
 skipC
 (exitC 0))
 (seqC (blockC 1 (seqC (rg fun T E H k => bV (fIaS 9 (t28 E) (t30 E)) fun v32 => bV (fLdN 9 v32 H) fun v33 => bM (fNew 51 [(.int .i64 (.ofNat 0)), (.str 0 0), (.str 0 0), (.int .i64 (.ofNat 0)), (.int .i64 (.ofNat 0)), (.str 0 0), (.int .i64 (.ofNat 0)), (.int .u8 (.ofNat 0)), (.int .i64 (.ofNat 0))] []) H fun v18 H => bE (fSt 9 v18 v33 H) H fun _ H => k (d18 E v18) H)
 (seqC (rg fun T E H k => bV (fFad 1 (t18 E)) fun v34 => bV (fLd1 v34 H) fun v35 => bV (fEql true .s v35 (.str 0 0)) fun v36 => k (d36 E v36) H)
 (condF t36
 (seqC (rg fun T E H k => bV (fNilchk (t16 E)) fun v38 => bV (fFad 5 v38) fun v39 => bV (fLd1 v39 H) fun v40 => bV (fAdd v40 (.int .i64 (.ofNat 1))) fun v41 => bV (fNilchk (t16 E)) fun v42 => bV (fFad 5 v42) fun v43 => bE (fSt 1 v43 v41 H) H fun _ H => k E H)
 (rg fun T E H k => bV (fNilchk (t16 E)) fun v46 => bV (fFad 2 v46) fun v47 => bV (fLd1 v47 H) fun v48 => bV (fFad 2 (t18 E)) fun v49 => bV (fLd1 v49 H) fun v50 => bV (fNilchk (t16 E)) fun v52 => bV (fFad 5 v52) fun v53 => bV (fLd1 v53 H) fun v54 => bV (fFad 0 (t18 E)) fun v55 => bV (fLd1 v55 H) fun v56 => bV (fFad 7 (t18 E)) fun v57 => bV (fLd1 v57 H) fun v58 => bV (fNeq true .i v58 (.int .u8 (.ofNat 0))) fun v59 => bV (fAgg [(.str 0 0), (.int .i64 (.ofNat 0)), (.int .i64 (.ofNat 0)), (.str 0 0), (.bool false)] [(0, 1), (1, 1), (2, 1), (4, 1)] [v50, v54, v56, v59]) fun v60 => bM (fSlice 130 1 [(.str 0 0), (.int .i64 (.ofNat 0)), (.int .i64 (.ofNat 0)), (.str 0 0), (.bool false)] [(0, 5)] [v60]) H fun v61 H => bE (fApp 130 5 56 v48 v61 H) H fun v62 H => bV (fNilchk (t16 E)) fun v63 => bV (fFad 2 v63) fun v64 => bE (fSt 1 v64 v62 H) H fun _ H => k E H))
 skipC))))
 (rg fun T E H k => bV (fAdd (t30 E) (.int .i64 (.ofNat 1))) fun v65 => k (d30 E v65) H)))))))
 (seqC (rg fun T E H k => T 71 [(t16 E), (t3 E)] H fun v68 H => k E H)
 (seqC (seqC (rg fun T E H k => T 72 [(t16 E)] H fun v70 H => k (d19 E v70) H)
 (seqC (rg fun T E H k => bV (fNeq true .i (t19 E) (.int .i64 (.ofNat 0))) fun v72 => k (d72 E v72) H)
 (condF t72
 (seqC (rg fun T E H k => bV (fAgg [(.int .i64 (.ofNat 0)), (.str 0 0), (.int .u8 (.ofNat 0)), .nils, .nils, (.int .i64 (.ofNat 0)), .nils] [] []) fun v73 => bE (fSt 7 (t14 E) v73 H) H fun _ H => k (d15 E (t19 E)) H)
 retC)
 skipC)))
 (seqC (rg fun T E H k => T 73 [(t16 E), (t2 E), (t5 E), (t6 E)] H fun v80 H => bV (fExt 0 v80) fun v81 => bV (fExt 1 v80) fun v82 => bV (fExt 2 v80) fun v83 => k (d21 (d5 (d20 E v81) v82) v83) H)
 (seqC (seqC (rg fun T E H k => bV (fNeq true .i (t21 E) (.int .i64 (.ofNat 0))) fun v85 => k (d85 E v85) H)
 (condF t85
 (seqC (rg fun T E H k => bV (fAgg [(.int .i64 (.ofNat 0)), (.str 0 0), (.int .u8 (.ofNat 0)), .nils, .nils, (.int .i64 (.ofNat 0)), .nils] [] []) fun v86 => bE (fSt 7 (t14 E) v86 H) H fun _ H => k (d15 E (t21 E)) H)
 retC)
 skipC))
 (seqC (rg fun T E H k => bV (fFad 3 (t8 E)) fun v88 => bV (fLd1 v88 H) fun v89 => T 54 [v89] H fun v90 H => bV (fFad 3 (t8 E)) fun v92 => bE (fSt 1 v92 v90 H) H fun _ H => bV (fFad 4 (t8 E)) fun v93 => bE (fSt 1 v93 (t20 E) H) H fun _ H => bV (fFad 2 (t8 E)) fun v94 => bE (fSt 1 v94 (.int .u8 (.ofNat 1)) H) H fun _ H => k E H)
 (seqC (seqC (rg fun T E H k => bV (fLenV (t20 E)) fun v96 => bV (fEql true .i v96 (.int .i64 (.ofNat 0))) fun v97 => k (d97 E v97) H)
 (condF t97
 (rg fun T E H k => bV (fFad 2 (t8 E)) fun v98 => bE (fSt 1 v98 (.int .u8 (.ofNat 2)) H) H fun _ H => k E H)
 skipC))
 (seqC (rg fun T E H k => bV (fLdN 5 (t8 E) H) fun v99 => bV (fNilchk (t16 E)) fun v102 => bV (fFad 4 v102) fun v103 => bV (fLd1 v103 H) fun v104 => bV (fAgg [(.int .i64 (.ofNat 0)), (.str 0 0), (.int .u8 (.ofNat 0)), .nils, .nils, (.int .i64 (.ofNat 0)), .nils] [(0, 5), (5, 1), (6, 1)] [v99, (t5 E), v104]) fun v105 => bE (fSt 7 (t14 E) v105 H) H fun _ H => k (d15 E (.int .i64 (.ofNat 0))) H)
 retC))))))))))) [fun E H => onPtr (t14 E) fun id off => onOpt (loadN H id off 7) fun l => some (.agg l), fun E _ => some (t15 E)]
def pl27 : Nat × List (Nat × Plan) := (80971143399229558869525931229184, [(7, ⟨[0, 1, 2, 3, 4, 5, 6, 7, 8, 9, 10, 11, 12, 13, 14, 15, 16, 17, 18, 19, 20, 21], [0, 0, 2, 6, 14, 0, 32, 0, 128, 384, 896, 0, 2048, 0, 8192, 24576, 65504, 131040, 262142, 524287, 1048575, 2097151]⟩), (19, ⟨[0, 1, 2, 3, 4, 5, 6, 7, 8], [0, 0, 0, 4, 12, 28, 63, 127, 255]⟩)])
noncomputable def c28 : TT → FnC := fnC 2 ((seqC (rg fun T E H k => k (d4 E (.int .i64 (.ofNat 0))) H)
 (seqC (seqC (rg fun T E H k => bV (fLenV (t0 E)) fun v7 => k (d8 (d7 E v7) (.int .i64 (.ofNat 0))) H)
 (blockC 0 (loopC (seqC (rg fun T E H k => bV (fLss (t8 E) (t7 E)) fun v9 => k (d9 E v9) H)
 (seqC (condF t9
 skipC
 (exitC 0))
 (seqC (blockC 1 (seqC (rg fun T E H k => k (d5 E (t8 E)) H)
 (seqC (rg fun T E H k => bV (fIaS 9 (t0 E) (t5 E)) fun v14 => bV (fLdN 9 v14 H) fun v15 => onFnV [(t1 E), v15] fun f l => T f l H fun v16 H => k (d16 E v16) H)
 (condF t16
 (seqC (rg fun T E H k => k (d4 E (t5 E)) H)
 retC)
 skipC))))
 (rg fun T E H k => bV (fAdd (t8 E) (.int .i64 (.ofNat 1))) fun v18 => k (d8 E v18) H)))))))
 (seqC (rg fun T E H k => k (d4 E (.int .i64 (.negSucc 0))) H)
 retC)))) [fun E _ => some (t4 E)]
def pl28 : Nat × List (Nat × Plan) := (457792, [])
noncomputable def c29 : TT → FnC := fnC 2 ((seqC (rg fun T E H k => bM (fBox 51 9 (t0 E)) H fun v2 H => k (d3 (d2 E v2) (.bool false)) H)
 (seqC (rg fun T E H k => bV (fFad 0 (t2 E)) fun v4 => bV (fLd1 v4 H) fun v5 => bV (fLd1 (t1 E) H) fun v6 => bV (fEql false .i v5 v6) fun v7 => k (d3 E v7) H)
 retC))) [fun E _ => some (t3 E)]
def pl29 : Nat × List (Nat × Plan) := (240, [])
noncomputable def c30 : TT → FnC := fnC 3 ((seqC (rg fun T E H k => bM (fBox 51 9 (t1 E)) H fun v4 H => k (d8 (d7 (d6 (d4 E v4) (.str 0 0)) .nils) (.bool false)) H)
 (seqC (rg fun T E H k => bV (fNilchk (t0 E)) fun v11 => bV (fFad 5 v11) fun v12 => bV (fLd1 v12 H) fun v13 => bV (fFad 1 (t4 E)) fun v14 => bV (fLd1 v14 H) fun v15 => bV (oLk .s (.agg [(.str 0 0), (.str 0 0), (.int .u8 (.ofNat 0)), (.str 0 0), (.str 0 0), (.str 0 0), (.int .u8 (.ofNat 0)), (.str 0 0), (.str 0 0), (.int .i64 (.ofNat 0)), (.int .i64 (.ofNat 0))]) false v13 v15 H) fun v16 => bM (fNew 67 [(.str 0 0), (.str 0 0), (.int .u8 (.ofNat 0)), (.str 0 0), (.str 0 0), (.str 0 0), (.int .u8 (.ofNat 0)), (.str 0 0), (.str 0 0), (.int .i64 (.ofNat 0)), (.int .i64 (.ofNat 0))] []) H fun v9 H => bE (fSt 11 v9 v16 H) H fun _ H => k (d9 E v9) H)
 (seqC (blockC 0 (seqC (rg fun T E H k => bV (fFad 7 (t4 E)) fun v18 => bV (fLd1 v18 H) fun v19 => bV (fEql true .i v19 (.int .u8 (.ofNat 1))) fun v20 => gdH v20 true H (fun rest => bV (some (t2 E)) fun v22 => rest v22 H) fun v22 H => gdH v20 true H (fun rest => bV (fFad 2 (t4 E)) fun v23 => rest v23 H) fun v23 H => gdH v20 true H (fun rest => bV (fLd1 v23 H) fun v24 => rest v24 H) fun v24 H => gdH v20 true H (fun rest => bV (fEql false .s v22 v24) fun v25 => rest v25 H) fun v25 H => bV (fPick v20 v25 (.bool false)) fun v26 => k (d17 E v26) H)
 (condF t17
 (seqC (rg fun T E H k => k (d8 (d7 (d6 E (t2 E)) .nils) (.bool true)) H)
 retC)
 (seqC (rg fun T E H k => bV (fFad 2 (t9 E)) fun v29 => bV (fLd1 v29 H) fun v30 => bV (fEql true .i v30 (.int .u8 (.ofNat 4))) fun v31 => gdH v31 true H (fun rest => bV (fFad 7 (t4 E)) fun v33 => rest v33 H) fun v33 H => gdH v31 true H (fun rest => bV (fLd1 v33 H) fun v34 => rest v34 H) fun v34 H => gdH v31 true H (fun rest => bV (fEql true .i v34 (.int .u8 (.ofNat 0))) fun v35 => rest v35 H) fun v35 H => bV (fPick v31 v35 (.bool false)) fun v36 => gdH v36 true H (fun rest => bV (some (t2 E)) fun v38 => rest v38 H) fun v38 H => gdH v36 true H (fun rest => bV (fFad 1 (t4 E)) fun v39 => rest v39 H) fun v39 H => gdH v36 true H (fun rest => bV (fLd1 v39 H) fun v40 => rest v40 H) fun v40 H => gdH v36 true H (fun rest => bV (fEql false .s v38 v40) fun v41 => rest v41 H) fun v41 H => bV (fPick v36 v41 (.bool false)) fun v42 => k (d28 E v42) H)
 (condF t28
 (seqC (rg fun T E H k => bV (fNilchk (t0 E)) fun v44 => bV (fFad 8 v44) fun v45 => bV (fLd1 v45 H) fun v46 => bV (oLk .s .nils false v46 (t2 E) H) fun v48 => bV (fIaS 1 v48 (.int .i64 (.ofNat 0))) fun v49 => bV (fLd1 v49 H) fun v50 => bV (fAdd (t2 E) (.str 1 33)) fun v52 => bM (fSlice 9 1 [(.str 0 0)] [(0, 1)] [v52]) H fun v53 H => k (d8 (d7 (d6 E v50) v53) (.bool true)) H)
 retC)
 (seqC (rg fun T E H k => bV (fLdN 9 (t4 E) H) fun v56 => T 34 [(t0 E), v56] H fun v57 H => T 74 [v57, (t2 E)] H fun v59 H => bV (fNot v59) fun v60 => k (d54 E v60) H)
 (condF t54
 (seqC (rg fun T E H k => k (d8 (d7 (d6 E (.str 0 0)) .nils) (.bool false)) H)
 retC)
 (seqC (rg fun T E H k => bV (fNilchk (t0 E)) fun v63 => bV (fFad 5 v63) fun v64 => bV (fLd1 v64 H) fun v65 => bV (oLk .s (.agg [(.str 0 0), (.str 0 0), (.int .u8 (.ofNat 0)), (.str 0 0), (.str 0 0), (.str 0 0), (.int .u8 (.ofNat 0)), (.str 0 0), (.str 0 0), (.int .i64 (.ofNat 0)), (.int .i64 (.ofNat 0))]) false v65 (t2 E) H) fun v67 => bV (fFld1 2 v67) fun v68 => bV (fEql true .i v68 (.int .u8 (.ofNat 9))) fun v69 => k (d61 E v69) H)
 (condF t61
 (seqC (rg fun T E H k => bV (fNilchk (t0 E)) fun v71 => bV (fFad 8 v71) fun v72 => bV (fLd1 v72 H) fun v73 => bV (oLk .s .nils false v73 (t2 E) H) fun v75 => bV (fIaS 1 v75 (.int .i64 (.ofNat 0))) fun v76 => bV (fLd1 v76 H) fun v77 => bV (fAdd (t2 E) (.str 1 32)) fun v79 => bV (fFad 1 (t4 E)) fun v80 => bV (fLd1 v80 H) fun v81 => bV (fAdd v79 v81) fun v82 => bM (fSlice 9 1 [(.str 0 0)] [(0, 1)] [v82]) H fun v83 H => k (d8 (d7 (d6 E v77) v83) (.bool true)) H)
 retC)
 skipC)))))))))
 (seqC (rg fun T E H k => bV (fNilchk (t0 E)) fun v85 => bV (fFad 8 v85) fun v86 => bV (fLd1 v86 H) fun v87 => bV (oLk .s .nils false v87 (t2 E) H) fun v89 => bV (fIaS 1 v89 (.int .i64 (.ofNat 0))) fun v90 => bV (fLd1 v90 H) fun v91 => bV (fAdd (t2 E) (.str 1 33)) fun v93 => bM (fSlice 9 1 [(.str 0 0)] [(0, 1)] [v93]) H fun v94 H => k (d8 (d7 (d6 E v91) v94) (.bool true)) H)
 retC))))) [fun E _ => some (t6 E), fun E _ => some (t7 E), fun E _ => some (t8 E)]
def pl30 : Nat × List (Nat × Plan) := (39614081254808311388780231680, [(1, ⟨[0, 1, 2, 3, 4, 5, 6, 7, 8], [0, 1, 3, 7, 0, 16, 63, 0, 255]⟩), (9, ⟨[0, 1, 2, 3, 4, 5, 6, 7, 8, 9, 10, 11, 12, 14, 13, 15, 16], [0, 1, 3, 7, 0, 31, 63, 127, 0, 256, 0, 1024, 3840, 7936, 255, 32767, 65535]⟩)])
noncomputable def c31 : TT → FnC := fnC 3 ((seqC (rg fun T E H k => k (d6 E .nils) H)
 (seqC (rg fun T E H k => bV (fLenV (t0 E)) fun v12 => bV (oSlV 9 true true true [(t0 E), v12, (t2 E), (t1 E)]) fun v13 => k E H)
 (seqC (seqC (rg fun T E H k => bV (fEql false .i (t1 E) (t2 E)) fun v16 => k (d16 E v16) H)
 (condF t16
 (seqC (rg fun T E H k => k (d6 E (t0 E)) H)
 retC)
 skipC))
 (seqC (rg fun T E H k => bV (fLenV (t0 E)) fun v19 => k (d7 E v19) H)
 (seqC (rg fun T E H k => bV (oSlV 9 false true false [(t0 E), (t1 E)]) fun v22 => bV (oSlV 9 true false false [(t0 E), (t2 E)]) fun v25 => bE (fApp 51 9 96 v22 v25 H) H fun v26 H => k (d0 E v26) H)
 (seqC (rg fun T E H k => bV (fLenV (t0 E)) fun v29 => bV (oSlV 9 true true false [(t0 E), (t7 E), v29]) fun v31 => bE (fClr [(.int .i64 (.ofNat 0)), (.str 0 0), (.str 0 0), (.int .i64 (.ofNat 0)), (.int .i64 (.ofNat 0)), (.str 0 0), (.int .i64 (.ofNat 0)), (.int .u8 (.ofNat 0)), (.int .i64 (.ofNat 0))] v31 H) H fun _ H => k E H)
 (seqC (rg fun T E H k => k (d6 E (t0 E)) H)
 retC)))))))) [fun E _ => some (t6 E)]
def pl31 : Nat × List (Nat × Plan) := (8589868800, [(5, ⟨[0, 1, 2, 3, 4, 5, 6, 7], [0, 0, 3, 0, 0, 24, 63, 127]⟩)])
noncomputable def c32 : TT → FnC := fnC 1 ((seqC (rg fun T E H k => k (d2 E .nils) H)
 (seqC (seqC (rg fun T E H k => bV (fEql true .v (t0 E) .nils) fun v4 => k (d4 E v4) H)
 (condF t4
 (seqC (rg fun T E H k => k (d2 E .nils) H)
 retC)
 skipC))
 (seqC (rg fun T E H k => bM (fSlice 51 0 [] [] []) H fun v5 H => bE (fApp 51 9 96 v5 (t0 E) H) H fun v7 H => k (d2 E v7) H)
 retC)))) [fun E _ => some (t2 E)]
def pl32 : Nat × List (Nat × Plan) := (232, [])
noncomputable def c33 : TT → FnC := fnC 2 ((seqC (rg fun T E H k => bM (fBox 51 9 (t1 E)) H fun v3 H => k (d4 (d3 E v3) (.bool false)) H)
 (seqC (seqC (rg fun T E H k => bV (fFad 1 (t3 E)) fun v15 => bV (fLd1 v15 H) fun v16 => bV (fEql true .s v16 (.str 0 0)) fun v17 => k (d17 E v17) H)
 (condF t17
 (seqC (rg fun T E H k => bV (fNilchk (t0 E)) fun v20 => bV (fFad 6 v20) fun v21 => bV (fLd1 v21 H) fun v22 => bV (fFad 2 (t3 E)) fun v23 => bV (fLd1 v23 H) fun v24 => bV (oLk .s (.agg [(.str 0 0), (.str 0 0), (.str 0 0), (.str 0 0)]) true v22 v24 H) fun v25 => bV (fExt 0 v25) fun v26 => bV (fExt 1 v25) fun v27 => bM (fNew 70 [(.str 0 0), (.str 0 0), (.str 0 0), (.str 0 0)] []) H fun v5 H => bE (fSt 4 v5 v26 H) H fun _ H => k (d6 (d5 E v5) v27) H)
 (seqC (rg fun T E H k => bV (fNilchk (t0 E)) fun v29 => bV (fFad 5 v29) fun v30 => bV (fLd1 v30 H) fun v31 => bV (fFad 2 (t5 E)) fun v32 => bV (fLd1 v32 H) fun v33 => bV (oLk .s (.agg [(.str 0 0), (.str 0 0), (.int .u8 (.ofNat 0)), (.str 0 0), (.str 0 0), (.str 0 0), (.int .u8 (.ofNat 0)), (.str 0 0), (.str 0 0), (.int .i64 (.ofNat 0)), (.int .i64 (.ofNat 0))]) false v31 v33 H) fun v34 => bM (fNew 67 [(.str 0 0), (.str 0 0), (.int .u8 (.ofNat 0)), (.str 0 0), (.str 0 0), (.str 0 0), (.int .u8 (.ofNat 0)), (.str 0 0), (.str 0 0), (.int .i64 (.ofNat 0)), (.int .i64 (.ofNat 0))] []) H fun v7 H => bE (fSt 11 v7 v34 H) H fun _ H => k (d7 E v7) H)
 (seqC (rg fun T E H k => bV (fFad 2 (t7 E)) fun v35 => bV (fLd1 v35 H) fun v36 => bV (fEql true .i v36 (.int .u8 (.ofNat 5))) fun v37 => gdH v37 true H (fun rest => bV (some (t0 E)) fun v39 => rest v39 H) fun v39 H => gdH v37 true H (fun rest => bV (fNilchk v39) fun v40 => rest v40 H) fun v40 H => gdH v37 true H (fun rest => bV (fFad 8 v40) fun v41 => rest v41 H) fun v41 H => gdH v37 true H (fun rest => bV (fLd1 v41 H) fun v42 => rest v42 H) fun v42 H => gdH v37 true H (fun rest => bV (fFad 0 (t7 E)) fun v43 => rest v43 H) fun v43 H => gdH v37 true H (fun rest => bV (fLd1 v43 H) fun v44 => rest v44 H) fun v44 H => gdH v37 true H (fun rest => bV (oLk .s .nils false v42 v44 H) fun v45 => rest v45 H) fun v45 H => gdH v37 true H (fun rest => bV (fLenV v45) fun v46 => rest v46 H) fun v46 H => gdH v37 true H (fun rest => bV (fGtr v46 (.int .i64 (.ofNat 1))) fun v47 => rest v47 H) fun v47 H => bV (fPick v37 v47 (.bool false)) fun v48 => k (d8 E v48) H)
 (seqC (rg fun T E H k => bV (fFad 0 (t3 E)) fun v49 => bV (fLd1 v49 H) fun v50 => bV (fFad 2 (t3 E)) fun v51 => bV (fLd1 v51 H) fun v52 => bV (fAgg [(.int .i64 (.ofNat 0)), (.str 0 0), (.str 0 0), (.int .i64 (.ofNat 0)), (.int .i64 (.ofNat 0)), (.str 0 0), (.int .i64 (.ofNat 0)), (.int .u8 (.ofNat 0)), (.int .i64 (.ofNat 0))] [(0, 1), (2, 1)] [v50, v52]) fun v53 => bM (fNew 51 [(.int .i64 (.ofNat 0)), (.str 0 0), (.str 0 0), (.int .i64 (.ofNat 0)), (.int .i64 (.ofNat 0)), (.str 0 0), (.int .i64 (.ofNat 0)), (.int .u8 (.ofNat 0)), (.int .i64 (.ofNat 0))] []) H fun v9 H => bE (fSt 9 v9 v53 H) H fun _ H => k (d9 E v9) H)
 (seqC (seqC (rg fun T E H k => k (d54 E (t8 E)) H)
 (condF t54
 (rg fun T E H k => bV (fFad 7 (t9 E)) fun v55 => bE (fSt 1 v55 (.int .u8 (.ofNat 1)) H) H fun _ H => bV (fFad 8 (t9 E)) fun v56 => bE (fSt 1 v56 (.int .i64 (.ofNat 91)) H) H fun _ H => k E H)
 skipC))
 (seqC (rg fun T E H k => gdH (t6 E) true H (fun rest => bV (some (t8 E)) fun v59 => rest v59 H) fun v59 H => gdH (t6 E) true H (fun rest => bV (some v59) fun v60 => rest v60 H) fun v60 H => gdH v60 false H (fun rest => bV (fFad 2 (t7 E)) fun v61 => rest v61 H) fun v61 H => gdH v60 false H (fun rest => bV (fLd1 v61 H) fun v62 => rest v62 H) fun v62 H => gdH v60 false H (fun rest => bV (fEql true .i v62 (.int .u8 (.ofNat 6))) fun v63 => rest v63 H) fun v63 H => gdH (t6 E) true H (fun rest => bV (fPick v60 (.bool true) v63) fun v64 => rest v64 H) fun v64 H => bV (fPick (t6 E) v64 (.bool false)) fun v65 => gdH v65 true H (fun rest => bV (fLdN 9 (t3 E) H) fun v67 => rest v67 H) fun v67 H => gdH v65 true H (fun rest => bV (fLdN 9 (t9 E) H) fun v68 => rest v68 H) fun v68 H => gdH v65 true H (fun rest => bV (fEql false (.agg [.i, .s, .s, .i, .i, .s, .i, .i, .i]) v67 v68) fun v69 => rest v69 H) fun v69 H => bV (fPick v65 v69 (.bool false)) fun v70 => k (d4 E v70) H)
 retC))))))
 skipC))
 (seqC (rg fun T E H k => bV (fNilchk (t0 E)) fun v73 => bV (fFad 5 v73) fun v74 => bV (fLd1 v74 H) fun v75 => bV (fFad 1 (t3 E)) fun v76 => bV (fLd1 v76 H) fun v77 => bV (oLk .s (.agg [(.str 0 0), (.str 0 0), (.int .u8 (.ofNat 0)), (.str 0 0), (.str 0 0), (.str 0 0), (.int .u8 (.ofNat 0)), (.str 0 0), (.str 0 0), (.int .i64 (.ofNat 0)), (.int .i64 (.ofNat 0))]) true v75 v77 H) fun v78 => bV (fExt 0 v78) fun v79 => bV (fExt 1 v78) fun v80 => bM (fNew 67 [(.str 0 0), (.str 0 0), (.int .u8 (.ofNat 0)), (.str 0 0), (.str 0 0), (.str 0 0), (.int .u8 (.ofNat 0)), (.str 0 0), (.str 0 0), (.int .i64 (.ofNat 0)), (.int .i64 (.ofNat 0))] []) H fun v10 H => bE (fSt 11 v10 v79 H) H fun _ H => k (d11 (d10 E v10) v80) H)
 (seqC (rg fun T E H k => bV (fFad 0 (t3 E)) fun v81 => bV (fLd1 v81 H) fun v82 => bV (fFad 1 (t3 E)) fun v83 => bV (fLd1 v83 H) fun v84 => bV (fFad 3 (t3 E)) fun v85 => bV (fLd1 v85 H) fun v86 => bV (fAgg [(.int .i64 (.ofNat 0)), (.str 0 0), (.str 0 0), (.int .i64 (.ofNat 0)), (.int .i64 (.ofNat 0)), (.str 0 0), (.int .i64 (.ofNat 0)), (.int .u8 (.ofNat 0)), (.int .i64 (.ofNat 0))] [(0, 1), (1, 1), (3, 1)] [v82, v84, v86]) fun v87 => bM (fNew 51 [(.int .i64 (.ofNat 0)), (.str 0 0), (.str 0 0), (.int .i64 (.ofNat 0)), (.int .i64 (.ofNat 0)), (.str 0 0), (.int .i64 (.ofNat 0)), (.int .u8 (.ofNat 0)), (.int .i64 (.ofNat 0))] []) H fun v12 H => bE (fSt 9 v12 v87 H) H fun _ H => k (d12 E v12) H)
 (seqC (seqC (rg fun T E H k => bV (fFad 2 (t10 E)) fun v88 => bV (fLd1 v88 H) fun v89 => k (d89 E v89) H)
 (blockC 0 (seqC (rg fun T E H k => bV (fEql true .i (t89 E) (.int .u8 (.ofNat 4))) fun v91 => k (d90 E v91) H)
 (condF t90
 (seqC (rg fun T E H k => bV (fFad 4 (t3 E)) fun v92 => bV (fLd1 v92 H) fun v93 => bV (fFad 5 (t3 E)) fun v94 => bV (fLd1 v94 H) fun v95 => bV (fFad 6 (t3 E)) fun v96 => bV (fLd1 v96 H) fun v97 => bV (fFad 4 (t12 E)) fun v98 => bE (fSt 1 v98 v93 H) H fun _ H => agn (fLd1 v96 H) v97 <| agn (fLd1 v94 H) v95 <| bV (fFad 5 (t12 E)) fun v99 => bE (fSt 1 v99 v95 H) H fun _ H => agn (fLd1 v96 H) v97 <| bV (fFad 6 (t12 E)) fun v100 => bE (fSt 1 v100 v97 H) H fun _ H => k E H)
 (seqC (seqC (rg fun T E H k => bV (fFad 4 (t3 E)) fun v101 => bV (fLd1 v101 H) fun v102 => bV (fEql true .i v102 (.int .i64 (.ofNat 0))) fun v103 => k (d103 E v103) H)
 (condF t103
 (rg fun T E H k => bV (fFad 7 (t12 E)) fun v104 => bE (fSt 1 v104 (.int .u8 (.ofNat 2)) H) H fun _ H => bV (fFad 5 (t12 E)) fun v105 => bE (fSt 1 v105 (.str 0 0) H) H fun _ H => bV (fFad 6 (t12 E)) fun v106 => bE (fSt 1 v106 (.int .i64 (.ofNat 0)) H) H fun _ H => k E H)
 skipC))
 (seqC (rg fun T E H k => gdH (t11 E) true H (fun rest => bV (fLdN 9 (t3 E) H) fun v109 => rest v109 H) fun v109 H => gdH (t11 E) true H (fun rest => bV (fLdN 9 (t12 E) H) fun v110 => rest v110 H) fun v110 H => gdH (t11 E) true H (fun rest => bV (fEql false (.agg [.i, .s, .s, .i, .i, .s, .i, .i, .i]) v109 v110) fun v111 => rest v111 H) fun v111 H => bV (fPick (t11 E) v111 (.bool false)) fun v112 => gdH v112 true H (fun rest => bV (fFad 4 (t3 E)) fun v114 => rest v114 H) fun v114 H => gdH v112 true H (fun rest => bV (fLd1 v114 H) fun v115 => rest v115 H) fun v115 H => gdH v112 true H (fun rest => bV (fGeq v115 (.int .i64 (.ofNat 0))) fun v116 => rest v116 H) fun v116 H => bV (fPick v112 v116 (.bool false)) fun v117 => gdH v117 true H (fun rest => bV (fFad 4 (t3 E)) fun v119 => rest v119 H) fun v119 H => gdH v117 true H (fun rest => bV (fLd1 v119 H) fun v120 => rest v120 H) fun v120 H => gdH v117 true H (fun rest => bV (fLeq v120 (.int .i64 (.ofNat 100))) fun v121 => rest v121 H) fun v121 H => bV (fPick v117 v121 (.bool false)) fun v122 => k (d4 E v122) H)
 retC)))
 (seqC (rg fun T E H k => bV (fEql true .i (t89 E) (.int .u8 (.ofNat 8))) fun v124 => k (d123 E v124) H)
 (condF t123
 (seqC (rg fun T E H k => bV (fNilchk (t0 E)) fun v127 => bV (fFad 0 v127) fun v128 => bV (fLdN 5 v128 H) fun v129 => bV (fFad 1 (t3 E)) fun v130 => bV (fLd1 v130 H) fun v131 => T 75 [v129, v131] H fun v132 H => bV (fExt 0 v132) fun v133 => bV (fExt 1 v132) fun v134 => k (d14 E v134) H)
 (seqC (rg fun T E H k => gdH (t11 E) true H (fun rest => bV (fLdN 9 (t3 E) H) fun v137 => rest v137 H) fun v137 H => gdH (t11 E) true H (fun rest => bV (fLdN 9 (t12 E) H) fun v138 => rest v138 H) fun v138 H => gdH (t11 E) true H (fun rest => bV (fEql false (.agg [.i, .s, .s, .i, .i, .s, .i, .i, .i]) v137 v138) fun v139 => rest v139 H) fun v139 H => bV (fPick (t11 E) v139 (.bool false)) fun v140 => gdH v140 true H (fun rest => bV (some (t14 E)) fun v142 => rest v142 H) fun v142 H => gdH v140 true H (fun rest => bV (fNot v142) fun v143 => rest v143 H) fun v143 H => bV (fPick v140 v143 (.bool false)) fun v144 => k (d4 E v144) H)
 retC))
 skipC))))))
 (seqC (rg fun T E H k => gdH (t11 E) true H (fun rest => bV (fLdN 9 (t3 E) H) fun v147 => rest v147 H) fun v147 H => gdH (t11 E) true H (fun rest => bV (fLdN 9 (t12 E) H) fun v148 => rest v148 H) fun v148 H => gdH (t11 E) true H (fun rest => bV (fEql false (.agg [.i, .s, .s, .i, .i, .s, .i, .i, .i]) v147 v148) fun v149 => rest v149 H) fun v149 H => bV (fPick (t11 E) v149 (.bool false)) fun v150 => gdH v150 true H (fun rest => bV (fFad 2 (t10 E)) fun v152 => rest v152 H) fun v152 H => gdH v150 true H (fun rest => bV (fLd1 v152 H) fun v153 => rest v153 H) fun v153 H => gdH v150 true H (fun rest => bV (fEql true .i v153 (.int .u8 (.ofNat 3))) fun v154 => rest v154 H) fun v154 H => gdH v150 true H (fun rest => bV (some v154) fun v155 => rest v155 H) fun v155 H => gdH v155 false H (fun rest => bV (fFad 2 (t10 E)) fun v156 => rest v156 H) fun v156 H => gdH v155 false H (fun rest => bV (fLd1 v156 H) fun v157 => rest v157 H) fun v157 H => gdH v155 false H (fun rest => bV (fEql true .i v157 (.int .u8 (.ofNat 7))) fun v158 => rest v158 H) fun v158 H => gdH v150 true H (fun rest => bV (fPick v155 (.bool true) v158) fun v159 => rest v159 H) fun v159 H => bV (fPick v150 v159 (.bool false)) fun v160 => k (d4 E v160) H)
 retC))))))) [fun E _ => some (t4 E)]
def pl33 : Nat × List (Nat × Plan) := (2923003274651172002298028626564554286045138362368, [(2, ⟨[0, 1, 2, 3, 4, 5, 6, 7, 8, 9, 10, 11, 12], [0, 1, 3, 7, 0, 16, 63, 127, 255, 255, 0, 1535, 4095]⟩), (3, ⟨[0, 1, 2, 3, 4, 5, 6, 7, 8], [0, 1, 3, 7, 0, 16, 63, 0, 255]⟩), (4, ⟨[0, 1, 2, 3, 4, 5, 6, 7, 8, 9, 10, 11, 12, 13, 14], [0, 1, 3, 7, 15, 31, 63, 127, 15, 271, 1023, 2047, 4095, 8191, 16383]⟩), (9, ⟨[0, 1, 2, 3, 4, 5, 6, 7, 8, 9, 10, 11, 12], [0, 1, 3, 7, 0, 16, 63, 127, 255, 255, 0, 1535, 4095]⟩), (13, ⟨[0, 1, 2, 3, 4, 5, 6, 7, 8, 9, 10, 11], [0, 1, 0, 4, 0, 16, 3, 67, 207, 463, 1023, 2047]⟩), (18, ⟨[0, 1, 2, 3, 4, 5, 6, 7, 8, 9, 10, 11], [0, 1, 3, 7, 0, 16, 63, 127, 255, 255, 511, 2047]⟩)])
noncomputable def c34 : TT → FnC := fnC 2 ((seqC (rg fun T E H k => bM (fBox 51 9 (t1 E)) H fun v3 H => k (d4 (d3 E v3) .nils) H)
 (seqC (seqC (rg fun T E H k => bV (fFad 1 (t3 E)) fun v10 => bV (fLd1 v10 H) fun v11 => bV (fEql true .s v11 (.str 0 0)) fun v12 => k (d12 E v12) H)
 (condF t12
 (seqC (rg fun T E H k => k (d4 E .nils) H)
 retC)
 skipC))
 (seqC (rg fun T E H k => k (d5 E .nils) H)
 (seqC (seqC (rg fun T E H k => bV (fNilchk (t0 E)) fun v14 => bV (fFad 5 v14) fun v15 => bV (fLd1 v15 H) fun v16 => bV (fFad 1 (t3 E)) fun v17 => bV (fLd1 v17 H) fun v18 => bV (oLk .s (.agg [(.str 0 0), (.str 0 0), (.int .u8 (.ofNat 0)), (.str 0 0), (.str 0 0), (.str 0 0), (.int .u8 (.ofNat 0)), (.str 0 0), (.str 0 0), (.int .i64 (.ofNat 0)), (.int .i64 (.ofNat 0))]) false v16 v18 H) fun v19 => bV (fFld1 2 v19) fun v20 => k (d20 E v20) H)
 (blockC 0 (seqC (seqC (rg fun T E H k => bV (fEql true .i (t20 E) (.int .u8 (.ofNat 3))) fun v22 => k (d21 E v22) H)
 (condF t21
 skipC
 (rg fun T E H k => bV (fEql true .i (t20 E) (.int .u8 (.ofNat 8))) fun v23 => k (d21 E v23) H)))
 (condF t21
 (rg fun T E H k => bV (fFad 1 (t3 E)) fun v25 => bV (fLd1 v25 H) fun v26 => bM (fSlice 9 1 [(.str 0 0)] [(0, 1)] [v26]) H fun v27 H => bE (fApp 9 1 16 (t5 E) v27 H) H fun v28 H => k (d5 E v28) H)
 (seqC (rg fun T E H k => bV (fEql true .i (t20 E) (.int .u8 (.ofNat 7))) fun v30 => k (d29 E v30) H)
 (condF t29
 (seqC (rg fun T E H k => bV (fNilchk (t0 E)) fun v32 => bV (fFad 8 v32) fun v33 => bV (fLd1 v33 H) fun v34 => bV (fFad 1 (t3 E)) fun v35 => bV (fLd1 v35 H) fun v36 => bV (oLk .s .nils false v34 v36 H) fun v37 => bV (fLenV v37) fun v38 => k (d39 (d38 (d37 E v37) v38) (.int .i64 (.ofNat 0))) H)
 (blockC 1 (loopC (seqC (rg fun T E H k => bV (fLss (t39 E) (t38 E)) fun v40 => k (d40 E v40) H)
 (seqC (condF t40
 skipC
 (exitC 1))
 (seqC (blockC 2 (seqC (rg fun T E H k => bV (fIaS 1 (t37 E) (t39 E)) fun v41 => bV (fLd1 v41 H) fun v42 => k (d7 E v42) H)
 (rg fun T E H k => bV (fNilchk (t0 E)) fun v45 => bV (fFad 6 v45) fun v46 => bV (fLd1 v46 H) fun v47 => bV (oLk .s (.agg [(.str 0 0), (.str 0 0), (.str 0 0), (.str 0 0)]) false v47 (t7 E) H) fun v49 => bV (fFld1 2 v49) fun v50 => bM (fSlice 9 1 [(.str 0 0)] [(0, 1)] [v50]) H fun v51 H => bE (fApp 9 1 16 (t5 E) v51 H) H fun v52 H => k (d5 E v52) H)))
 (rg fun T E H k => bV (fAdd (t39 E) (.int .i64 (.ofNat 1))) fun v53 => k (d39 E v53) H)))))))
 skipC))))))
 (seqC (seqC (rg fun T E H k => bV (fFad 1 (t3 E)) fun v54 => bV (fLd1 v54 H) fun v55 => bV (fNilchk (t0 E)) fun v58 => bV (fFad 0 v58) fun v59 => bV (fLdN 5 v59 H) fun v60 => bV (fFad 1 (t3 E)) fun v61 => bV (fLd1 v61 H) fun v62 => T 76 [v60, v62] H fun v63 H => agn (fLd1 v54 H) v55 <| bM (fSlice 9 1 [(.str 0 0)] [(0, 1)] [v55]) H fun v56 H => bE (fApp 9 1 16 v56 v63 H) H fun v64 H => bV (fLenV v64) fun v65 => k (d65 (d64 (d66 E (.int .i64 (.ofNat 0))) v64) v65) H)
 (blockC 3 (loopC (seqC (rg fun T E H k => bV (fLss (t66 E) (t65 E)) fun v67 => k (d67 E v67) H)
 (seqC (condF t67
 skipC
 (exitC 3))
 (seqC (blockC 4 (seqC (rg fun T E H k => bV (fIaS 1 (t64 E) (t66 E)) fun v68 => bV (fLd1 v68 H) fun v69 => k (d9 E v69) H)
 (rg fun T E H k => bV (fNilchk (t0 E)) fun v72 => bV (fFad 0 v72) fun v73 => bV (fLdN 5 v73 H) fun v74 => T 77 [v74, (t9 E)] H fun v76 H => bE (fApp 9 1 16 (t5 E) v76 H) H fun v77 H => k (d5 E v77) H)))
 (rg fun T E H k => bV (fAdd (t66 E) (.int .i64 (.ofNat 1))) fun v78 => k (d66 E v78) H)))))))
 (seqC (rg fun T E H k => k (d4 E (t5 E)) H)
 retC))))))) [fun E _ => some (t4 E)]
def pl34 : Nat × List (Nat × Plan) := (1208649118451461407108096, [(4, ⟨[0, 1, 2, 3, 4, 5, 6, 7], [0, 1, 3, 7, 0, 16, 63, 127]⟩), (9, ⟨[0, 1, 2, 3, 4, 5, 6, 7, 8], [0, 1, 3, 7, 0, 16, 63, 127, 0]⟩), (14, ⟨[0, 1, 3, 4, 5, 6, 7, 8, 12, 9, 2, 10, 11], [0, 1, 3, 0, 8, 24, 56, 0, 128, 504, 1023, 2047, 0]⟩)])
noncomputable def c35 : TT → FnC := fnC 4 ((seqC (rg fun T E H k => bM (fNew 56 [(.str 0 0), (.int .u8 (.ofNat 0)), (.str 0 0), (.str 0 0), (.int .i64 (.ofNat 0))] []) H fun v8 H => k (d9 (d8 E v8) (.int .i64 (.ofNat 0))) H)
 (seqC (rg fun T E H k => bV (fNilchk (t0 E)) fun v15 => bV (fFad 5 v15) fun v16 => bV (fLd1 v16 H) fun v17 => bV (oLk .s (.agg [(.str 0 0), (.str 0 0), (.int .u8 (.ofNat 0)), (.str 0 0), (.str 0 0), (.str 0 0), (.int .u8 (.ofNat 0)), (.str 0 0), (.str 0 0), (.int .i64 (.ofNat 0)), (.int .i64 (.ofNat 0))]) false v17 (t1 E) H) fun v19 => bM (fNew 67 [(.str 0 0), (.str 0 0), (.int .u8 (.ofNat 0)), (.str 0 0), (.str 0 0), (.str 0 0), (.int .u8 (.ofNat 0)), (.str 0 0), (.str 0 0), (.int .i64 (.ofNat 0)), (.int .i64 (.ofNat 0))] []) H fun v10 H => bE (fSt 11 v10 v19 H) H fun _ H => k (d10 E v10) H)
 (seqC (rg fun T E H k => bV (fFad 6 (t10 E)) fun v21 => bV (fLd1 v21 H) fun v22 => bV (fFad 7 (t10 E)) fun v23 => bV (fLd1 v23 H) fun v24 => bV (fAgg [(.str 0 0), (.int .u8 (.ofNat 0)), (.str 0 0), (.str 0 0), (.int .i64 (.ofNat 0))] [(0, 1), (1, 1), (2, 1)] [(t1 E), v22, v24]) fun v25 => bM (fNew 56 [(.str 0 0), (.int .u8 (.ofNat 0)), (.str 0 0), (.str 0 0), (.int .i64 (.ofNat 0))] []) H fun v11 H => bE (fSt 5 v11 v25 H) H fun _ H => k (d11 E v11) H)
 (seqC (seqC (rg fun T E H k => bV (fFad 6 (t10 E)) fun v26 => bV (fLd1 v26 H) fun v27 => k (d27 E v27) H)
 (blockC 0 (seqC (rg fun T E H k => bV (fEql true .i (t27 E) (.int .u8 (.ofNat 1))) fun v29 => k (d28 E v29) H)
 (condF t28
 (rg fun T E H k => bV (fFad 9 (t10 E)) fun v31 => bV (fLd1 v31 H) fun v32 => bV (fAdd (t2 E) v32) fun v33 => bV (fFad 4 (t11 E)) fun v34 => bE (fSt 1 v34 v33 H) H fun _ H => k E H)
 (seqC (rg fun T E H k => bV (fEql true .i (t27 E) (.int .u8 (.ofNat 2))) fun v36 => k (d35 E v36) H)
 (condF t35
 (seqC (rg fun T E H k => bV (fFad 8 (t10 E)) fun v39 => bV (fLd1 v39 H) fun v40 => T 78 [(t3 E), v40] H fun v41 H => bV (fExt 0 v41) fun v42 => bV (fExt 1 v41) fun v43 => bM (fNew 43 [(.int .u8 (.ofNat 0)), (.int .i64 (.ofNat 0)), (.bool false), (.str 0 0)] []) H fun v12 H => bE (fSt 4 v12 v42 H) H fun _ H => k (d13 (d12 E v12) v43) H)
 (seqC (blockC 1 (seqC (rg fun T E H k => bV (fNot (t13 E)) fun v46 => k (d44 E v46) H)
 (condF t44
 (seqC (rg fun T E H k => bV (fAgg [(.str 0 0), (.int .u8 (.ofNat 0)), (.str 0 0), (.str 0 0), (.int .i64 (.ofNat 0))] [] []) fun v47 => bE (fSt 5 (t8 E) v47 H) H fun _ H => k (d9 E (.int .i64 (.ofNat 100))) H)
 retC)
 (seqC (rg fun T E H k => bV (fFad 0 (t12 E)) fun v49 => bV (fLd1 v49 H) fun v50 => bV (fNeq true .i v50 (.int .u8 (.ofNat 3))) fun v51 => k (d48 E v51) H)
 (condF t48
 (seqC (rg fun T E H k => bV (fAgg [(.str 0 0), (.int .u8 (.ofNat 0)), (.str 0 0), (.str 0 0), (.int .i64 (.ofNat 0))] [] []) fun v52 => bE (fSt 5 (t8 E) v52 H) H fun _ H => k (d9 E (.int .i64 (.ofNat 90))) H)
 retC)
 skipC)))))
 (rg fun T E H k => bV (fFad 3 (t12 E)) fun v53 => bV (fLd1 v53 H) fun v54 => bV (fFad 3 (t11 E)) fun v55 => bE (fSt 1 v55 v54 H) H fun _ H => k E H)))
 skipC))))))
 (seqC (rg fun T E H k => bV (fLdN 5 (t11 E) H) fun v56 => bE (fSt 5 (t8 E) v56 H) H fun _ H => k (d9 E (.int .i64 (.ofNat 0))) H)
 retC)))))) [fun E H => onPtr (t8 E) fun id off => onOpt (loadN H id off 5) fun l => some (.agg l), fun E _ => some (t9 E)]
def pl35 : Nat × List (Nat × Plan) := (143816086150692864, [])
noncomputable def c36 : TT → FnC := fnC 3 ((seqC (rg fun T E H k => bM (fBox 51 9 (t1 E)) H fun v4 H => k (d6 (d4 E v4) (.bool false)) H)
 (seqC (rg fun T E H k => bV (fFad 5 (t4 E)) fun v8 => bV (fLd1 v8 H) fun v9 => bV (fEql true .s v9 (.str 0 0)) fun v10 => gdH v10 true H (fun rest => bV (fFad 6 (t4 E)) fun v12 => rest v12 H) fun v12 H => gdH v10 true H (fun rest => bV (fLd1 v12 H) fun v13 => rest v13 H) fun v13 H => gdH v10 true H (fun rest => bV (fEql true .i v13 (.int .i64 (.ofNat 0))) fun v14 => rest v14 H) fun v14 H => bV (fPick v10 v14 (.bool false)) fun v15 => gdH v15 false H (fun rest => bV (fFad 5 (t4 E)) fun v17 => rest v17 H) fun v17 H => gdH v15 false H (fun rest => bV (fLd1 v17 H) fun v18 => rest v18 H) fun v18 H => gdH v15 false H (fun rest => T 79 [v18] H fun v19 H => rest v19 H) fun v19 H => gdH v15 false H (fun rest => bV (some v19) fun v20 => rest v20 H) fun v20 H => gdH v20 true H (fun rest => bV (fFad 6 (t4 E)) fun v21 => rest v21 H) fun v21 H => gdH v20 true H (fun rest => bV (fLd1 v21 H) fun v22 => rest v22 H) fun v22 H => gdH v20 true H (fun rest => bV (fGeq v22 (.int .i64 (.ofNat 0))) fun v23 => rest v23 H) fun v23 H => gdH v15 false H (fun rest => bV (fPick v20 v23 (.bool false)) fun v24 => rest v24 H) fun v24 H => gdH v15 false H (fun rest => bV (some v24) fun v25 => rest v25 H) fun v25 H => gdH v25 true H (fun rest => bV (fFad 6 (t4 E)) fun v26 => rest v26 H) fun v26 H => gdH v25 true H (fun rest => bV (fLd1 v26 H) fun v27 => rest v27 H) fun v27 H => gdH v25 true H (fun rest => bV (some (t2 E)) fun v28 => rest v28 H) fun v28 H => gdH v25 true H (fun rest => bV (fAdd v28 (.int .i64 (.ofNat 1048576))) fun v29 => rest v29 H) fun v29 H => gdH v25 true H (fun rest => bV (fLeq v27 v29) fun v30 => rest v30 H) fun v30 H => gdH v15 false H (fun rest => bV (fPick v25 v30 (.bool false)) fun v31 => rest v31 H) fun v31 H => bV (fPick v15 (.bool true) v31) fun v32 => k (d7 E v32) H)
 (seqC (rg fun T E H k => bV (fFad 3 (t4 E)) fun v33 => bV (fLd1 v33 H) fun v34 => bV (fGeq v34 (.int .i64 (.ofNat 0))) fun v35 => gdH v35 true H (fun rest => bV (fFad 3 (t4 E)) fun v37 => rest v37 H) fun v37 H => gdH v35 true H (fun rest => bV (fLd1 v37 H) fun v38 => rest v38 H) fun v38 H => gdH v35 true H (fun rest => bV (some (t2 E)) fun v39 => rest v39 H) fun v39 H => gdH v35 true H (fun rest => bV (fLeq v38 v39) fun v40 => rest v40 H) fun v40 H => bV (fPick v35 v40 (.bool false)) fun v41 => gdH v41 true H (fun rest => bV (some (t7 E)) fun v43 => rest v43 H) fun v43 H => bV (fPick v41 v43 (.bool false)) fun v44 => k (d6 E v44) H)
 retC)))) [fun E _ => some (t6 E)]
def pl36 : Nat × List (Nat × Plan) := (35184372088576, [])
noncomputable def c37 : TT → FnC := fnC 2 ((seqC (rg fun T E H k => k (d4 E (.bool false)) H)
 (seqC (rg fun T E H k => T 80 [(t0 E), (t1 E)] H fun v7 H => bV (fGeq v7 (.int .i64 (.ofNat 0))) fun v8 => k (d4 E v8) H)
 retC))) [fun E _ => some (t4 E)]
def pl37 : Nat × List (Nat × Plan) := (480, [])
noncomputable def c38 : TT → FnC := fnC 2 ((seqC (rg fun T E H k => k (d3 E (.bool false)) H)
 (seqC (rg fun T E H k => bV (fLd1 (t1 E) H) fun v4 => bV (oLk .s (.bool false) false v4 (t0 E) H) fun v6 => bV (fNot v6) fun v7 => k (d3 E v7) H)
 retC))) [fun E _ => some (t3 E)]
def pl38 : Nat × List (Nat × Plan) := (240, [])
noncomputable def c39 : TT → FnC := fnC 0 ((seqC (rg fun T E H k => bM (fNew 31 [(.str 0 0), (.str 0 0), .nils, .nils, .nils] []) H fun v0 H => k (d0 E v0) H)
 (seqC (rg fun T E H k => bV (fAgg [(.str 0 0), (.str 0 0), (.int .u8 (.ofNat 0)), (.str 0 0), (.str 0 0), (.str 0 0), (.int .u8 (.ofNat 0)), (.str 0 0), (.str 0 0), (.int .i64 (.ofNat 0)), (.int .i64 (.ofNat 0))] [(0, 1), (2, 1)] [(.str 1 115), (.int .u8 (.ofNat 1))]) fun v1 => bV (fAgg [(.str 0 0), (.str 0 0), (.int .u8 (.ofNat 0)), (.str 0 0), (.str 0 0), (.str 0 0), (.int .u8 (.ofNat 0)), (.str 0 0), (.str 0 0), (.int .i64 (.ofNat 0)), (.int .i64 (.ofNat 0))] [(0, 1), (2, 1)] [(.str 2 28721), (.int .u8 (.ofNat 6))]) fun v2 => bV (fAgg [(.str 0 0), (.str 0 0), (.int .u8 (.ofNat 0)), (.str 0 0), (.str 0 0), (.str 0 0), (.int .u8 (.ofNat 0)), (.str 0 0), (.str 0 0), (.int .i64 (.ofNat 0)), (.int .i64 (.ofNat 0))] [(0, 1), (2, 1)] [(.str 1 97), (.int .u8 (.ofNat 3))]) fun v3 => bV (fAgg [(.str 0 0), (.str 0 0), (.int .u8 (.ofNat 0)), (.str 0 0), (.str 0 0), (.str 0 0), (.int .u8 (.ofNat 0)), (.str 0 0), (.str 0 0), (.int .i64 (.ofNat 0)), (.int .i64 (.ofNat 0))] [(0, 1), (2, 1)] [(.str 1 98), (.int .u8 (.ofNat 3))]) fun v4 => bV (fAgg [(.str 0 0), (.str 0 0), (.int .u8 (.ofNat 0)), (.str 0 0), (.str 0 0), (.str 0 0), (.int .u8 (.ofNat 0)), (.str 0 0), (.str 0 0), (.int .i64 (.ofNat 0)), (.int .i64 (.ofNat 0))] [(0, 1), (2, 1)] [(.str 1 113), (.int .u8 (.ofNat 6))]) fun v5 => bV (fAgg [(.str 0 0), (.str 0 0), (.int .u8 (.ofNat 0)), (.str 0 0), (.str 0 0), (.str 0 0), (.int .u8 (.ofNat 0)), (.str 0 0), (.str 0 0), (.int .i64 (.ofNat 0)), (.int .i64 (.ofNat 0))] [(0, 1), (2, 1)] [(.str 1 101), (.int .u8 (.ofNat 2))]) fun v6 => bM (fSlice 67 6 [(.str 0 0), (.str 0 0), (.int .u8 (.ofNat 0)), (.str 0 0), (.str 0 0), (.str 0 0), (.int .u8 (.ofNat 0)), (.str 0 0), (.str 0 0), (.int .i64 (.ofNat 0)), (.int .i64 (.ofNat 0)), (.str 0 0), (.str 0 0), (.int .u8 (.ofNat 0)), (.str 0 0), (.str 0 0), (.str 0 0), (.int .u8 (.ofNat 0)), (.str 0 0), (.str 0 0), (.int .i64 (.ofNat 0)), (.int .i64 (.ofNat 0)), (.str 0 0), (.str 0 0), (.int .u8 (.ofNat 0)), (.str 0 0), (.str 0 0), (.str 0 0), (.int .u8 (.ofNat 0)), (.str 0 0), (.str 0 0), (.int .i64 (.ofNat 0)), (.int .i64 (.ofNat 0)), (.str 0 0), (.str 0 0), (.int .u8 (.ofNat 0)), (.str 0 0), (.str 0 0), (.str 0 0), (.int .u8 (.ofNat 0)), (.str 0 0), (.str 0 0), (.int .i64 (.ofNat 0)), (.int .i64 (.ofNat 0)), (.str 0 0), (.str 0 0), (.int .u8 (.ofNat 0)), (.str 0 0), (.str 0 0), (.str 0 0), (.int .u8 (.ofNat 0)), (.str 0 0), (.str 0 0), (.int .i64 (.ofNat 0)), (.int .i64 (.ofNat 0)), (.str 0 0), (.str 0 0), (.int .u8 (.ofNat 0)), (.str 0 0), (.str 0 0), (.str 0 0), (.int .u8 (.ofNat 0)), (.str 0 0), (.str 0 0), (.int .i64 (.ofNat 0)), (.int .i64 (.ofNat 0))] [(0, 11), (11, 11), (22, 11), (33, 11), (44, 11), (55, 11)] [v1, v2, v3, v4, v5, v6]) H fun v7 H => bV (fAgg [(.str 0 0), (.str 0 0), (.str 0 0), (.str 0 0)] [(0, 1), (1, 1), (2, 1)] [(.str 2 26161), (.str 1 115), (.str 2 28721)]) fun v8 => bV (fAgg [(.str 0 0), (.str 0 0), (.str 0 0), (.str 0 0)] [(0, 1), (1, 1), (2, 1)] [(.str 2 26162), (.str 2 28721), (.str 1 97)]) fun v9 => bV (fAgg [(.str 0 0), (.str 0 0), (.str 0 0), (.str 0 0)] [(0, 1), (1, 1), (2, 1)] [(.str 2 26163), (.str 2 28721), (.str 1 98)]) fun v10 => bV (fAgg [(.str 0 0), (.str 0 0), (.str 0 0), (.str 0 0)] [(0, 1), (1, 1), (2, 1)] [(.str 2 26164), (.str 1 97), (.str 1 113)]) fun v11 => bV (fAgg [(.str 0 0), (.str 0 0), (.str 0 0), (.str 0 0)] [(0, 1), (1, 1), (2, 1)] [(.str 2 26165), (.str 1 98), (.str 1 113)]) fun v12 => bV (fAgg [(.str 0 0), (.str 0 0), (.str 0 0), (.str 0 0)] [(0, 1), (1, 1), (2, 1)] [(.str 2 26166), (.str 1 113), (.str 1 101)]) fun v13 => bM (fSlice 70 6 [(.str 0 0), (.str 0 0), (.str 0 0), (.str 0 0), (.str 0 0), (.str 0 0), (.str 0 0), (.str 0 0), (.str 0 0), (.str 0 0), (.str 0 0), (.str 0 0), (.str 0 0), (.str 0 0), (.str 0 0), (.str 0 0), (.str 0 0), (.str 0 0), (.str 0 0), (.str 0 0), (.str 0 0), (.str 0 0), (.str 0 0), (.str 0 0)] [(0, 4), (4, 4), (8, 4), (12, 4), (16, 4), (20, 4)] [v8, v9, v10, v11, v12, v13]) H fun v14 H => bV (fAgg [(.str 0 0), (.str 0 0), .nils, .nils, .nils] [(0, 1), (3, 1), (4, 1)] [(.str 1 112), v7, v14]) fun v15 => bE (fSt 5 (t0 E) v15 H) H fun _ H => k E H)
 retC))) [fun E H => onPtr (t0 E) fun id off => onOpt (loadN H id off 5) fun l => some (.agg l)]
def pl39 : Nat × List (Nat × Plan) := (65534, [])
noncomputable def c40 : TT → FnC := fnC 0 ((seqC (rg fun T E H k => bM (fNew 31 [(.str 0 0), (.str 0 0), .nils, .nils, .nils] []) H fun v0 H => k (d0 E v0) H)
 (seqC (rg fun T E H k => T 9 [(.int .i64 (.ofNat 0))] H fun v1 H => bV (fAgg [(.str 0 0), (.int .u8 (.ofNat 0)), (.int .i64 (.ofNat 0)), (.bool false), (.str 0 0)] [(0, 1), (1, 4)] [(.str 1 110), v1]) fun v2 => bM (fSlice 46 1 [(.str 0 0), (.int .u8 (.ofNat 0)), (.int .i64 (.ofNat 0)), (.bool false), (.str 0 0)] [(0, 5)] [v2]) H fun v3 H => bV (fAgg [(.str 0 0), (.str 0 0), (.int .u8 (.ofNat 0)), (.str 0 0), (.str 0 0), (.str 0 0), (.int .u8 (.ofNat 0)), (.str 0 0), (.str 0 0), (.int .i64 (.ofNat 0)), (.int .i64 (.ofNat 0))] [(0, 1), (2, 1)] [(.str 1 115), (.int .u8 (.ofNat 1))]) fun v4 => bV (fAgg [(.str 0 0), (.str 0 0), (.int .u8 (.ofNat 0)), (.str 0 0), (.str 0 0), (.str 0 0), (.int .u8 (.ofNat 0)), (.str 0 0), (.str 0 0), (.int .i64 (.ofNat 0)), (.int .i64 (.ofNat 0))] [(0, 1), (2, 1), (4, 1)] [(.str 1 120), (.int .u8 (.ofNat 5)), (.str 1 103)]) fun v5 => bV (fAgg [(.str 0 0), (.str 0 0), (.int .u8 (.ofNat 0)), (.str 0 0), (.str 0 0), (.str 0 0), (.int .u8 (.ofNat 0)), (.str 0 0), (.str 0 0), (.int .i64 (.ofNat 0)), (.int .i64 (.ofNat 0))] [(0, 1), (2, 1)] [(.str 1 101), (.int .u8 (.ofNat 2))]) fun v6 => bV (fAgg [(.str 0 0), (.str 0 0), (.int .u8 (.ofNat 0)), (.str 0 0), (.str 0 0), (.str 0 0), (.int .u8 (.ofNat 0)), (.str 0 0), (.str 0 0), (.int .i64 (.ofNat 0)), (.int .i64 (.ofNat 0))] [(0, 1), (2, 1)] [(.str 1 100), (.int .u8 (.ofNat 2))]) fun v7 => bM (fSlice 67 4 [(.str 0 0), (.str 0 0), (.int .u8 (.ofNat 0)), (.str 0 0), (.str 0 0), (.str 0 0), (.int .u8 (.ofNat 0)), (.str 0 0), (.str 0 0), (.int .i64 (.ofNat 0)), (.int .i64 (.ofNat 0)), (.str 0 0), (.str 0 0), (.int .u8 (.ofNat 0)), (.str 0 0), (.str 0 0), (.str 0 0), (.int .u8 (.ofNat 0)), (.str 0 0), (.str 0 0), (.int .i64 (.ofNat 0)), (.int .i64 (.ofNat 0)), (.str 0 0), (.str 0 0), (.int .u8 (.ofNat 0)), (.str 0 0), (.str 0 0), (.str 0 0), (.int .u8 (.ofNat 0)), (.str 0 0), (.str 0 0), (.int .i64 (.ofNat 0)), (.int .i64 (.ofNat 0)), (.str 0 0), (.str 0 0), (.int .u8 (.ofNat 0)), (.str 0 0), (.str 0 0), (.str 0 0), (.int .u8 (.ofNat 0)), (.str 0 0), (.str 0 0), (.int .i64 (.ofNat 0)), (.int .i64 (.ofNat 0))] [(0, 11), (11, 11), (22, 11), (33, 11)] [v4, v5, v6, v7]) H fun v8 H => bV (fAgg [(.str 0 0), (.str 0 0), (.str 0 0), (.str 0 0)] [(0, 1), (1, 1), (2, 1)] [(.str 1 102), (.str 1 115), (.str 1 120)]) fun v9 => bV (fAgg [(.str 0 0), (.str 0 0), (.str 0 0), (.str 0 0)] [(0, 1), (1, 1), (2, 1)] [(.str 1 103), (.str 1 120), (.str 1 101)]) fun v10 => bV (fAgg [(.str 0 0), (.str 0 0), (.str 0 0), (.str 0 0)] [(0, 1), (1, 1), (2, 1), (3, 1)] [(.str 1 104), (.str 1 120), (.str 1 100), (.str 9 906209567602246492209)]) fun v11 => bM (fSlice 70 3 [(.str 0 0), (.str 0 0), (.str 0 0), (.str 0 0), (.str 0 0), (.str 0 0), (.str 0 0), (.str 0 0), (.str 0 0), (.str 0 0), (.str 0 0), (.str 0 0)] [(0, 4), (4, 4), (8, 4)] [v9, v10, v11]) H fun v12 H => bV (fAgg [(.str 0 0), (.str 0 0), .nils, .nils, .nils] [(0, 1), (2, 1), (3, 1), (4, 1)] [(.str 1 112), v3, v8, v12]) fun v13 => bE (fSt 5 (t0 E) v13 H) H fun _ H => k E H)
 retC))) [fun E H => onPtr (t0 E) fun id off => onOpt (loadN H id off 5) fun l => some (.agg l)]
def pl40 : Nat × List (Nat × Plan) := (16382, [])
noncomputable def c41 : TT → FnC := fnC 1 ((seqC (rg fun T E H k => bM (fNew 43 [(.int .u8 (.ofNat 0)), (.int .i64 (.ofNat 0)), (.bool false), (.str 0 0)] []) H fun v2 H => k (d2 E v2) H)
 (seqC (rg fun T E H k => bV (fAgg [(.int .u8 (.ofNat 0)), (.int .i64 (.ofNat 0)), (.bool false), (.str 0 0)] [(0, 1), (3, 1)] [(.int .u8 (.ofNat 3)), (t0 E)]) fun v4 => bE (fSt 4 (t2 E) v4 H) H fun _ H => k E H)
 retC))) [fun E H => onPtr (t2 E) fun id off => onOpt (loadN H id off 4) fun l => some (.agg l)]
def pl41 : Nat × List (Nat × Plan) := (24, [])
noncomputable def c42 : TT → FnC := fnC 3 ((rg fun T E H k => bV (fFad 4 (t1 E)) fun v4 => bV (fLd1 v4 H) fun v5 => bV (fFad 4 (t1 E)) fun v6 => bV (fLd1 v6 H) fun v7 => bV (fLenV v7) fun v8 => bV (bQuo v8 (.int .i64 (.ofNat 26))) fun v9 => bV (fAdd (.int .i64 (.ofNat 97)) v9) fun v10 => bV (fInt .u8 v10) fun v11 => bV (fFad 4 (t1 E)) fun v12 => bV (fLd1 v12 H) fun v13 => bV (fLenV v13) fun v14 => bV (bRem v14 (.int .i64 (.ofNat 26))) fun v15 => bV (fAdd (.int .i64 (.ofNat 97)) v15) fun v16 => bV (fInt .u8 v16) fun v17 => bM (fSlice 5 2 [(.int .u8 (.ofNat 0)), (.int .u8 (.ofNat 0))] [(0, 1), (1, 1)] [v11, v17]) H fun v18 H => bV (fB2s v18 H) fun v19 => bV (fAdd (.str 1 102) v19) fun v20 => bV (fLd1 (t2 E) H) fun v21 => bV (fAgg [(.str 0 0), (.str 0 0), (.str 0 0), (.str 0 0)] [(0, 1), (1, 1), (2, 1)] [v20, v21, (t0 E)]) fun v23 => bM (fSlice 70 1 [(.str 0 0), (.str 0 0), (.str 0 0), (.str 0 0)] [(0, 4)] [v23]) H fun v24 H => bE (fApp 70 4 64 v5 v24 H) H fun v25 H => bV (fFad 4 (t1 E)) fun v26 => bE (fSt 1 v26 v25 H) H fun _ H => k E H)) []
def pl42 : Nat × List (Nat × Plan) := (134217712, [])
noncomputable def c43 : TT → FnC := fnC 4 ((seqC (rg fun T E H k => bV (fFad 3 (t1 E)) fun v6 => bV (fLd1 v6 H) fun v7 => bV (fLenV v7) fun v8 => bV (fAdd (.int .i64 (.ofNat 97)) v8) fun v9 => bV (fInt .u8 v9) fun v10 => bM (fSlice 5 1 [(.int .u8 (.ofNat 0))] [(0, 1)] [v10]) H fun v11 H => bV (fB2s v11 H) fun v12 => bV (fAdd (.str 1 110) v12) fun v13 => k (d5 E v13) H)
 (seqC (rg fun T E H k => bV (fFad 3 (t1 E)) fun v14 => bV (fLd1 v14 H) fun v15 => bV (fAgg [(.str 0 0), (.str 0 0), (.int .u8 (.ofNat 0)), (.str 0 0), (.str 0 0), (.str 0 0), (.int .u8 (.ofNat 0)), (.str 0 0), (.str 0 0), (.int .i64 (.ofNat 0)), (.int .i64 (.ofNat 0))] [(0, 1), (2, 1)] [(t5 E), (t0 E)]) fun v18 => bM (fSlice 67 1 [(.str 0 0), (.str 0 0), (.int .u8 (.ofNat 0)), (.str 0 0), (.str 0 0), (.str 0 0), (.int .u8 (.ofNat 0)), (.str 0 0), (.str 0 0), (.int .i64 (.ofNat 0)), (.int .i64 (.ofNat 0))] [(0, 11)] [v18]) H fun v19 H => bE (fApp 67 11 144 v15 v19 H) H fun v20 H => bV (fFad 3 (t1 E)) fun v21 => bE (fSt 1 v21 v20 H) H fun _ H => k E H)
 (seqC (rg fun T E H k => bV (fLd1 (t2 E) H) fun v22 => onFnV [v22, (t5 E)] fun f l => T f l H fun v24 H => k E H)
 (seqC (seqC (rg fun T E H k => bV (fEql true .i (t0 E) (.int .u8 (.ofNat 5))) fun v26 => gdH v26 true H (fun rest => bV (fFad 3 (t1 E)) fun v28 => rest v28 H) fun v28 H => gdH v26 true H (fun rest => bV (fLd1 v28 H) fun v29 => rest v29 H) fun v29 H => gdH v26 true H (fun rest => bV (fFad 3 (t1 E)) fun v30 => rest v30 H) fun v30 H => gdH v26 true H (fun rest => bV (fLd1 v30 H) fun v31 => rest v31 H) fun v31 H => gdH v26 true H (fun rest => bV (fLenV v31) fun v32 => rest v32 H) fun v32 H => gdH v26 true H (fun rest => bV (fSub v32 (.int .i64 (.ofNat 2))) fun v33 => rest v33 H) fun v33 H => gdH v26 true H (fun rest => bV (fIaS 11 v29 v33) fun v34 => rest v34 H) fun v34 H => gdH v26 true H (fun rest => bV (fFad 2 v34) fun v35 => rest v35 H) fun v35 H => gdH v26 true H (fun rest => bV (fLd1 v35 H) fun v36 => rest v36 H) fun v36 H => gdH v26 true H (fun rest => bV (fEql true .i v36 (.int .u8 (.ofNat 6))) fun v37 => rest v37 H) fun v37 H => bV (fPick v26 v37 (.bool false)) fun v38 => k (d38 E v38) H)
 (condF t38
 (rg fun T E H k => bV (fLd1 (t2 E) H) fun v39 => onFnV [v39, (t5 E)] fun f l => T f l H fun v41 H => k E H)
 skipC))
 (rg fun T E H k => bE (fSt 1 (t3 E) (t5 E) H) H fun _ H => k E H)))))) []
def pl43 : Nat × List (Nat × Plan) := (8521215115200, [])
noncomputable def c44 : TT → FnC := fnC 1 ((seqC (rg fun T E H k => bM (fBox 31 5 (t0 E)) H fun v1 H => k (d2 (d1 E v1) .nilp) H)
 (seqC (rg fun T E H k => bV (fLdN 5 (t1 E) H) fun v10 => bM (aMap []) H fun v11 H => bM (aMap []) H fun v12 H => bM (aMap []) H fun v13 H => bV (fAgg [(.str 0 0), (.str 0 0), .nils, .nils, .nils, .nilm, .nilm, .nilm] [(0, 5), (5, 1), (6, 1), (7, 1)] [v10, v11, v12, v13]) fun v14 => bM (fBox 143 8 v14) H fun v15 H => k (d3 E v15) H)
 (seqC (seqC (rg fun T E H k => bV (fFad 3 (t1 E)) fun v16 => bV (fLd1 v16 H) fun v17 => bV (fLenV v17) fun v18 => k (d19 (d18 (d17 E v17) v18) (.int .i64 (.ofNat 0))) H)
 (blockC 0 (loopC (seqC (rg fun T E H k => bV (fLss (t19 E) (t18 E)) fun v20 => k (d20 E v20) H)
 (seqC (condF t20
 skipC
 (exitC 0))
 (seqC (blockC 1 (seqC (rg fun T E H k => bV (fIaS 11 (t17 E) (t19 E)) fun v21 => bV (fLdN 11 v21 H) fun v22 => bM (fNew 67 [(.str 0 0), (.str 0 0), (.int .u8 (.ofNat 0)), (.str 0 0), (.str 0 0), (.str 0 0), (.int .u8 (.ofNat 0)), (.str 0 0), (.str 0 0), (.int .i64 (.ofNat 0)), (.int .i64 (.ofNat 0))] []) H fun v5 H => bE (fSt 11 v5 v22 H) H fun _ H => k (d5 E v5) H)
 (seqC (rg fun T E H k => bV (fNilchk (t3 E)) fun v25 => bV (fFad 5 v25) fun v26 => bV (fLd1 v26 H) fun v27 => bV (fFad 0 (t5 E)) fun v28 => bV (fLd1 v28 H) fun v29 => bV (oLk .s (.agg [(.str 0 0), (.str 0 0), (.int .u8 (.ofNat 0)), (.str 0 0), (.str 0 0), (.str 0 0), (.int .u8 (.ofNat 0)), (.str 0 0), (.str 0 0), (.int .i64 (.ofNat 0)), (.int .i64 (.ofNat 0))]) true v27 v29 H) fun v30 => bV (fExt 0 v30) fun v31 => bV (fExt 1 v30) fun v32 => bM (fNew 67 [(.str 0 0), (.str 0 0), (.int .u8 (.ofNat 0)), (.str 0 0), (.str 0 0), (.str 0 0), (.int .u8 (.ofNat 0)), (.str 0 0), (.str 0 0), (.int .i64 (.ofNat 0)), (.int .i64 (.ofNat 0))] []) H fun v6 H => bE (fSt 11 v6 v31 H) H fun _ H => k (d7 E v32) H)
 (seqC (rg fun T E H k => bV (fNot (t7 E)) fun v34 => k (d34 E v34) H)
 (condF t34
 (rg fun T E H k => bV (fNilchk (t3 E)) fun v36 => bV (fFad 5 v36) fun v37 => bV (fLd1 v37 H) fun v38 => bV (fFad 0 (t5 E)) fun v39 => bV (fLd1 v39 H) fun v40 => bV (fLdN 11 (t5 E) H) fun v41 => bE (oMu .s v38 v40 v41 H) H fun _ H => k E H)
 skipC)))))
 (rg fun T E H k => bV (fAdd (t19 E) (.int .i64 (.ofNat 1))) fun v42 => k (d19 E v42) H)))))))
 (seqC (seqC (rg fun T E H k => bV (fFad 4 (t1 E)) fun v43 => bV (fLd1 v43 H) fun v44 => bV (fLenV v44) fun v45 => k (d46 (d45 (d44 E v44) v45) (.int .i64 (.ofNat 0))) H)
 (blockC 2 (loopC (seqC (rg fun T E H k => bV (fLss (t46 E) (t45 E)) fun v47 => k (d47 E v47) H)
 (seqC (condF t47
 skipC
 (exitC 2))
 (seqC (blockC 3 (seqC (rg fun T E H k => bV (fIaS 4 (t44 E) (t46 E)) fun v48 => bV (fLdN 4 v48 H) fun v49 => bM (fNew 70 [(.str 0 0), (.str 0 0), (.str 0 0), (.str 0 0)] []) H fun v9 H => bE (fSt 4 v9 v49 H) H fun _ H => k (d9 E v9) H)
 (seqC (rg fun T E H k => bV (fNilchk (t3 E)) fun v51 => bV (fFad 6 v51) fun v52 => bV (fLd1 v52 H) fun v53 => bV (fFad 2 (t9 E)) fun v54 => bV (fLd1 v54 H) fun v55 => bV (fNilchk (t3 E)) fun v57 => bV (fFad 6 v57) fun v58 => bV (fLd1 v58 H) fun v59 => bV (fFad 2 (t9 E)) fun v60 => bV (fLd1 v60 H) fun v61 => bV (oLk .s .nils false v59 v61 H) fun v62 => bV (fLdN 4 (t9 E) H) fun v63 => bM (fSlice 70 1 [(.str 0 0), (.str 0 0), (.str 0 0), (.str 0 0)] [(0, 4)] [v63]) H fun v64 H => bE (fApp 70 4 64 v62 v64 H) H fun v65 H => agn (fLd1 v54 H) v55 <| agn (fLd1 v52 H) v53 <| bE (oMu .s v53 v55 v65 H) H fun _ H => k E H)
 (rg fun T E H k => bV (fNilchk (t3 E)) fun v67 => bV (fFad 7 v67) fun v68 => bV (fLd1 v68 H) fun v69 => bV (fFad 1 (t9 E)) fun v70 => bV (fLd1 v70 H) fun v71 => bV (fNilchk (t3 E)) fun v73 => bV (fFad 7 v73) fun v74 => bV (fLd1 v74 H) fun v75 => bV (fFad 1 (t9 E)) fun v76 => bV (fLd1 v76 H) fun v77 => bV (oLk .s .nils false v75 v77 H) fun v78 => bV (fLdN 4 (t9 E) H) fun v79 => bM (fSlice 70 1 [(.str 0 0), (.str 0 0), (.str 0 0), (.str 0 0)] [(0, 4)] [v79]) H fun v80 H => bE (fApp 70 4 64 v78 v80 H) H fun v81 H => agn (fLd1 v70 H) v71 <| agn (fLd1 v68 H) v69 <| bE (oMu .s v69 v71 v81 H) H fun _ H => k E H))))
 (rg fun T E H k => bV (fAdd (t46 E) (.int .i64 (.ofNat 1))) fun v82 => k (d46 E v82) H)))))))
 (seqC (rg fun T E H k => k (d2 E (t3 E)) H)
 retC)))))) [fun E _ => some (t2 E)]
def pl44 : Nat × List (Nat × Plan) := (19342813113570166822796352, [(5, ⟨[0, 1, 2, 3, 4, 5, 6, 7, 8, 9, 10, 11, 12], [0, 1, 3, 7, 0, 16, 63, 127, 255, 255, 0, 1535, 4095]⟩), (7, ⟨[0, 1, 2, 3, 4, 5, 6, 7], [0, 1, 3, 7, 0, 16, 0, 127]⟩), (12, ⟨[0, 1, 2, 3, 4, 5, 6, 7, 8, 9, 10, 11, 12, 13, 14, 15, 16], [0, 1, 3, 7, 0, 16, 0, 64, 192, 448, 0, 1024, 4032, 0, 8192, 32704, 65535]⟩), (13, ⟨[0, 1, 2, 3, 4, 5, 6, 7, 8, 9, 10, 11, 12, 13, 14, 15, 16], [0, 1, 3, 7, 0, 16, 0, 64, 192, 448, 0, 1024, 4032, 0, 8192, 32704, 65535]⟩)])
noncomputable def c45 : TT → FnC := fnC 1 ((seqC (rg fun T E H k => k (d3 (d2 E (.str 0 0)) (.bool false)) H)
 (seqC (rg fun T E H k => bV (fNilchk (t0 E)) fun v12 => bV (fFad 0 v12) fun v13 => bV (fLdN 5 v13 H) fun v14 => bM (fNew 31 [(.str 0 0), (.str 0 0), .nils, .nils, .nils] []) H fun v4 H => bE (fSt 5 v4 v14 H) H fun _ H => k (d4 E v4) H)
 (seqC (seqC (rg fun T E H k => bV (fFad 0 (t4 E)) fun v15 => bV (fLd1 v15 H) fun v16 => T 79 [v16] H fun v17 H => bV (fNot v17) fun v18 => gdH v18 false H (fun rest => bV (fFad 1 (t4 E)) fun v20 => rest v20 H) fun v20 H => gdH v18 false H (fun rest => bV (fLd1 v20 H) fun v21 => rest v21 H) fun v21 H => gdH v18 false H (fun rest => T 81 [v21] H fun v22 H => rest v22 H) fun v22 H => gdH v18 false H (fun rest => bV (fNot v22) fun v23 => rest v23 H) fun v23 H => bV (fPick v18 (.bool true) v23) fun v24 => gdH v24 false H (fun rest => bV (fFad 3 (t4 E)) fun v26 => rest v26 H) fun v26 H => gdH v24 false H (fun rest => bV (fLd1 v26 H) fun v27 => rest v27 H) fun v27 H => gdH v24 false H (fun rest => bV (fLenV v27) fun v28 => rest v28 H) fun v28 H => gdH v24 false H (fun rest => bV (fGtr v28 (.int .i64 (.ofNat 64))) fun v29 => rest v29 H) fun v29 H => bV (fPick v24 (.bool true) v29) fun v30 => gdH v30 false H (fun rest => bV (fFad 4 (t4 E)) fun v32 => rest v32 H) fun v32 H => gdH v30 false H (fun rest => bV (fLd1 v32 H) fun v33 => rest v33 H) fun v33 H => gdH v30 false H (fun rest => bV (fLenV v33) fun v34 => rest v34 H) fun v34 H => gdH v30 false H (fun rest => bV (fGtr v34 (.int .i64 (.ofNat 128))) fun v35 => rest v35 H) fun v35 H => bV (fPick v30 (.bool true) v35) fun v36 => gdH v36 false H (fun rest => bV (fFad 2 (t4 E)) fun v38 => rest v38 H) fun v38 H => gdH v36 false H (fun rest => bV (fLd1 v38 H) fun v39 => rest v39 H) fun v39 H => gdH v36 false H (fun rest => bV (fLenV v39) fun v40 => rest v40 H) fun v40 H => gdH v36 false H (fun rest => bV (fGtr v40 (.int .i64 (.ofNat 16))) fun v41 => rest v41 H) fun v41 H => bV (fPick v36 (.bool true) v41) fun v42 => k (d42 E v42) H)
 (condF t42
 (seqC (rg fun T E H k => k (d3 (d2 E (.str 0 0)) (.bool true)) H)
 retC)
 skipC))
 (seqC (rg fun T E H k => T 82 [.nils] H fun v43 H => bM (fNew 92 [.nilf] []) H fun v5 H => bE (fSt 1 v5 v43 H) H fun _ H => k (d5 E v5) H)
 (seqC (seqC (rg fun T E H k => bV (fFad 2 (t4 E)) fun v45 => bV (fLd1 v45 H) fun v46 => bV (oFn (.func 85) 0 [(t5 E)]) fun v47 => T 83 [v46, (.fn (.func 84) [] []), v47] H fun v48 H => bV (fExt 0 v48) fun v49 => bV (fExt 1 v48) fun v50 => k (d7 (d6 E v49) v50) H)
 (seqC (rg fun T E H k => k (d51 E (t7 E)) H)
 (condF t51
 (seqC (rg fun T E H k => k (d3 (d2 E (t6 E)) (.bool true)) H)
 retC)
 skipC)))
 (seqC (rg fun T E H k => bV (fFad 0 (t4 E)) fun v53 => bV (fLd1 v53 H) fun v54 => bM (fSlice 9 1 [(.str 0 0)] [(0, 1)] [v54]) H fun v55 H => T 82 [v55] H fun v56 H => bM (fNew 92 [.nilf] []) H fun v8 H => bE (fSt 1 v8 v56 H) H fun _ H => k (d8 E v8) H)
 (seqC (seqC (rg fun T E H k => bV (fFad 3 (t4 E)) fun v58 => bV (fLd1 v58 H) fun v59 => bV (oFn (.func 88) 0 [(t8 E)]) fun v60 => T 86 [v59, (.fn (.func 87) [] []), v60] H fun v61 H => bV (fExt 0 v61) fun v62 => bV (fExt 1 v61) fun v63 => k (d10 (d9 E v62) v63) H)
 (seqC (rg fun T E H k => k (d64 E (t10 E)) H)
 (condF t64
 (seqC (rg fun T E H k => k (d3 (d2 E (t9 E)) (.bool true)) H)
 retC)
 skipC)))
 (seqC (rg fun T E H k => bV (fFad 4 (t4 E)) fun v66 => bV (fLd1 v66 H) fun v67 => bV (oFn (.func 91) 0 [(t8 E)]) fun v68 => T 89 [v67, (.fn (.func 90) [] []), v68] H fun v69 H => bV (fExt 0 v69) fun v70 => bV (fExt 1 v69) fun v71 => k (d3 (d2 E v70) v71) H)
 retC))))))))) [fun E _ => some (t2 E), fun E _ => some (t3 E)]
def pl45 : Nat × List (Nat × Plan) := (4703917482598075463680, [])
noncomputable def c46 : TT → FnC := fnC 1 ((seqC (rg fun T E H k => bM (fBox 97 1 (t0 E)) H fun v1 H => k (d3 (d2 (d1 E v1) (.str 0 0)) (.bool false)) H)
 (seqC (rg fun T E H k => bV (fLd1 (t1 E) H) fun v4 => bV (fNilchk v4) fun v5 => bV (fFad 0 v5) fun v6 => bV (fFad 3 v6) fun v7 => bV (fLd1 v7 H) fun v8 => bV (oFn (.func 92) 0 [(t1 E)]) fun v9 => T 86 [v8, (.fn (.func 87) [] []), v9] H fun v10 H => bV (fExt 0 v10) fun v11 => bV (fExt 1 v10) fun v12 => k (d3 (d2 E v11) v12) H)
 retC))) [fun E _ => some (t2 E), fun E _ => some (t3 E)]
def pl46 : Nat × List (Nat × Plan) := (8176, [])
noncomputable def c47 : TT → FnC := fnC 1 ((seqC (rg fun T E H k => bM (fBox 97 1 (t0 E)) H fun v1 H => k (d3 (d2 (d1 E v1) (.str 0 0)) (.bool false)) H)
 (seqC (rg fun T E H k => bV (fLd1 (t1 E) H) fun v4 => bV (fNilchk v4) fun v5 => bV (fFad 0 v5) fun v6 => bV (fFad 4 v6) fun v7 => bV (fLd1 v7 H) fun v8 => bV (oFn (.func 94) 0 [(t1 E)]) fun v9 => T 89 [v8, (.fn (.func 90) [] []), v9] H fun v10 H => bV (fExt 0 v10) fun v11 => bV (fExt 1 v10) fun v12 => k (d3 (d2 E v11) v12) H)
 retC))) [fun E _ => some (t2 E), fun E _ => some (t3 E)]
def pl47 : Nat × List (Nat × Plan) := (8176, [])
noncomputable def c48 : TT → FnC := fnC 1 ((seqC (rg fun T E H k => bM (fBox 97 1 (t0 E)) H fun v1 H => k (d3 (d2 (d1 E v1) (.str 0 0)) (.bool false)) H)
 (seqC (rg fun T E H k => bV (fLd1 (t1 E) H) fun v4 => bV (fNilchk v4) fun v5 => bV (fFad 0 v5) fun v6 => bV (fFad 3 v6) fun v7 => bV (fLd1 v7 H) fun v8 => bV (oFn (.func 95) 0 [(t1 E)]) fun v9 => T 86 [v8, (.fn (.func 87) [] []), v9] H fun v10 H => bV (fExt 0 v10) fun v11 => bV (fExt 1 v10) fun v12 => k (d3 (d2 E v11) v12) H)
 retC))) [fun E _ => some (t2 E), fun E _ => some (t3 E)]
def pl48 : Nat × List (Nat × Plan) := (8176, [])
noncomputable def c49 : TT → FnC := fnC 1 ((seqC (rg fun T E H k => k (d3 (d2 E (.str 0 0)) (.bool false)) H)
 (seqC (rg fun T E H k => bM (aMap []) H fun v11 H => bM (fNew 153 [.nilm] []) H fun v4 H => bE (fSt 1 v4 v11 H) H fun _ H => k (d4 E v4) H)
 (seqC (seqC (rg fun T E H k => bV (fNilchk (t0 E)) fun v13 => bV (fFad 0 v13) fun v14 => bV (fFad 3 v14) fun v15 => bV (fLd1 v15 H) fun v16 => bV (fLenV v16) fun v17 => k (d18 (d17 (d16 E v16) v17) (.int .i64 (.ofNat 0))) H)
 (blockC 0 (loopC (seqC (rg fun T E H k => bV (fLss (t18 E) (t17 E)) fun v19 => k (d19 E v19) H)
 (seqC (condF t19
 skipC
 (exitC 0))
 (seqC (blockC 1 (seqC (rg fun T E H k => bV (fIaS 11 (t16 E) (t18 E)) fun v20 => bV (fLdN 11 v20 H) fun v21 => bM (fNew 67 [(.str 0 0), (.str 0 0), (.int .u8 (.ofNat 0)), (.str 0 0), (.str 0 0), (.str 0 0), (.int .u8 (.ofNat 0)), (.str 0 0), (.str 0 0), (.int .i64 (.ofNat 0)), (.int .i64 (.ofNat 0))] []) H fun v6 H => bE (fSt 11 v6 v21 H) H fun _ H => k (d6 E v6) H)
 (seqC (rg fun T E H k => bV (fLd1 (t4 E) H) fun v22 => bV (fFad 3 (t6 E)) fun v23 => bV (fLd1 v23 H) fun v24 => bV (oLk .s (.agg [(.int .i64 (.ofNat 0)), (.int .i64 (.ofNat 0))]) false v22 v24 H) fun v25 => bM (fNew 154 [(.int .i64 (.ofNat 0)), (.int .i64 (.ofNat 0))] []) H fun v7 H => bE (fSt 2 v7 v25 H) H fun _ H => k (d7 E v7) H)
 (seqC (seqC (rg fun T E H k => bV (fFad 2 (t6 E)) fun v26 => bV (fLd1 v26 H) fun v27 => k (d27 E v27) H)
 (blockC 2 (seqC (rg fun T E H k => bV (fEql true .i (t27 E) (.int .u8 (.ofNat 1))) fun v29 => k (d28 E v29) H)
 (condF t28
 (rg fun T E H k => bV (fIaA 2 1 (t7 E) (.int .i64 (.ofNat 0))) fun v30 => bV (fLd1 v30 H) fun v31 => bV (fAdd v31 (.int .i64 (.ofNat 1))) fun v32 => bV (fIaA 2 1 (t7 E) (.int .i64 (.ofNat 0))) fun v33 => bE (fSt 1 v33 v32 H) H fun _ H => k E H)
 (seqC (rg fun T E H k => bV (fEql true .i (t27 E) (.int .u8 (.ofNat 2))) fun v35 => k (d34 E v35) H)
 (condF t34
 (rg fun T E H k => bV (fIaA 2 1 (t7 E) (.int .i64 (.ofNat 1))) fun v36 => bV (fLd1 v36 H) fun v37 => bV (fAdd v37 (.int .i64 (.ofNat 1))) fun v38 => bV (fIaA 2 1 (t7 E) (.int .i64 (.ofNat 1))) fun v39 => bE (fSt 1 v39 v38 H) H fun _ H => k E H)
 skipC))))))
 (rg fun T E H k => bV (fLd1 (t4 E) H) fun v40 => bV (fFad 3 (t6 E)) fun v41 => bV (fLd1 v41 H) fun v42 => bV (fLdN 2 (t7 E) H) fun v43 => bE (oMu .s v40 v42 v43 H) H fun _ H => k E H)))))
 (rg fun T E H k => bV (fAdd (t18 E) (.int .i64 (.ofNat 1))) fun v44 => k (d18 E v44) H)))))))
 (seqC (rg fun T E H k => bM (fSlice 9 1 [(.str 0 0)] [(0, 1)] [(.str 0 0)]) H fun v45 H => k (d8 E v45) H)
 (seqC (seqC (rg fun T E H k => bV (fNilchk (t0 E)) fun v47 => bV (fFad 0 v47) fun v48 => bV (fFad 3 v48) fun v49 => bV (fLd1 v49 H) fun v50 => bV (fLenV v50) fun v51 => k (d52 (d51 (d50 E v50) v51) (.int .i64 (.ofNat 0))) H)
 (blockC 3 (loopC (seqC (rg fun T E H k => bV (fLss (t52 E) (t51 E)) fun v53 => k (d53 E v53) H)
 (seqC (condF t53
 skipC
 (exitC 3))
 (seqC (blockC 4 (seqC (rg fun T E H k => bV (fIaS 11 (t50 E) (t52 E)) fun v54 => bV (fLdN 11 v54 H) fun v55 => bM (fNew 67 [(.str 0 0), (.str 0 0), (.int .u8 (.ofNat 0)), (.str 0 0), (.str 0 0), (.str 0 0), (.int .u8 (.ofNat 0)), (.str 0 0), (.str 0 0), (.int .i64 (.ofNat 0)), (.int .i64 (.ofNat 0))] []) H fun v10 H => bE (fSt 11 v10 v55 H) H fun _ H => k (d10 E v10) H)
 (seqC (rg fun T E H k => bV (fFad 2 (t10 E)) fun v56 => bV (fLd1 v56 H) fun v57 => bV (fEql true .i v57 (.int .u8 (.ofNat 10))) fun v58 => k (d58 E v58) H)
 (condF t58
 (rg fun T E H k => bV (fFad 0 (t10 E)) fun v60 => bV (fLd1 v60 H) fun v61 => bM (fSlice 9 1 [(.str 0 0)] [(0, 1)] [v61]) H fun v62 H => bE (fApp 9 1 16 (t8 E) v62 H) H fun v63 H => k (d8 E v63) H)
 skipC))))
 (rg fun T E H k => bV (fAdd (t52 E) (.int .i64 (.ofNat 1))) fun v64 => k (d52 E v64) H)))))))
 (seqC (rg fun T E H k => bV (oFn (.func 100) 0 [(t4 E)]) fun v66 => T 98 [(t8 E), (.fn (.func 99) [] []), v66] H fun v67 H => bV (fExt 0 v67) fun v68 => bV (fExt 1 v67) fun v69 => k (d3 (d2 E v68) v69) H)
 retC))))))) [fun E _ => some (t2 E), fun E _ => some (t3 E)]
def pl49 : Nat × List (Nat × Plan) := (1180286501825073444864, [])
noncomputable def c50 : TT → FnC := fnC 1 ((seqC (rg fun T E H k => bM (fBox 97 1 (t0 E)) H fun v1 H => k (d3 (d2 (d1 E v1) (.str 0 0)) (.bool false)) H)
 (seqC (seqC (rg fun T E H k => bV (fLd1 (t1 E) H) fun v7 => bV (fNilchk v7) fun v8 => bV (fFad 0 v8) fun v9 => bV (fFad 3 v9) fun v10 => bV (fLd1 v10 H) fun v11 => bV (oFn (.func 101) 0 [(t1 E)]) fun v12 => T 86 [v11, (.fn (.func 87) [] []), v12] H fun v13 H => bV (fExt 0 v13) fun v14 => bV (fExt 1 v13) fun v15 => k (d5 (d4 E v14) v15) H)
 (seqC (rg fun T E H k => k (d16 E (t5 E)) H)
 (condF t16
 (seqC (rg fun T E H k => k (d3 (d2 E (t4 E)) (.bool true)) H)
 retC)
 skipC)))
 (seqC (rg fun T E H k => bV (fLd1 (t1 E) H) fun v18 => bV (fNilchk v18) fun v19 => bV (fFad 0 v19) fun v20 => bV (fFad 4 v20) fun v21 => bV (fLd1 v21 H) fun v22 => bV (oFn (.func 103) 0 [(t1 E)]) fun v23 => T 89 [v22, (.fn (.func 90) [] []), v23] H fun v24 H => bV (fExt 0 v24) fun v25 => bV (fExt 1 v24) fun v26 => k (d3 (d2 E v25) v26) H)
 retC)))) [fun E _ => some (t2 E), fun E _ => some (t3 E)]
def pl50 : Nat × List (Nat × Plan) := (134152128, [])
noncomputable def c51 : TT → FnC := fnC 1 ((seqC (rg fun T E H k => bM (fBox 97 1 (t0 E)) H fun v1 H => k (d3 (d2 (d1 E v1) (.str 0 0)) (.bool false)) H)
 (seqC (rg fun T E H k => bV (fLd1 (t1 E) H) fun v4 => bV (fNilchk v4) fun v5 => bV (fFad 0 v5) fun v6 => bV (fFad 3 v6) fun v7 => bV (fLd1 v7 H) fun v8 => bV (oFn (.func 105) 0 [(t1 E)]) fun v9 => T 86 [v8, (.fn (.func 87) [] []), v9] H fun v10 H => bV (fExt 0 v10) fun v11 => bV (fExt 1 v10) fun v12 => k (d3 (d2 E v11) v12) H)
 retC))) [fun E _ => some (t2 E), fun E _ => some (t3 E)]
def pl51 : Nat × List (Nat × Plan) := (8176, [])
noncomputable def c52 : TT → FnC := fnC 1 ((seqC (rg fun T E H k => bM (fBox 97 1 (t0 E)) H fun v1 H => k (d3 (d2 (d1 E v1) (.str 0 0)) (.bool false)) H)
 (seqC (rg fun T E H k => bV (fLd1 (t1 E) H) fun v4 => bV (fNilchk v4) fun v5 => bV (fFad 0 v5) fun v6 => bV (fFad 3 v6) fun v7 => bV (fLd1 v7 H) fun v8 => bV (oFn (.func 109) 0 [(t1 E)]) fun v9 => T 86 [v8, (.fn (.func 87) [] []), v9] H fun v10 H => bV (fExt 0 v10) fun v11 => bV (fExt 1 v10) fun v12 => k (d3 (d2 E v11) v12) H)
 retC))) [fun E _ => some (t2 E), fun E _ => some (t3 E)]
def pl52 : Nat × List (Nat × Plan) := (8176, [])
noncomputable def c53 : TT → FnC := fnC 1 ((seqC (rg fun T E H k => bM (fBox 97 1 (t0 E)) H fun v1 H => k (d3 (d2 (d1 E v1) (.str 0 0)) (.bool false)) H)
 (seqC (rg fun T E H k => bV (oFn (.func 112) 0 [(t1 E)]) fun v5 => bM (fNew 92 [.nilf] []) H fun v4 H => bE (fSt 1 v4 v5 H) H fun _ H => k (d4 E v4) H)
 (seqC (rg fun T E H k => bV (fLd1 (t1 E) H) fun v6 => bV (fNilchk v6) fun v7 => bV (fFad 0 v7) fun v8 => bV (fFad 3 v8) fun v9 => bV (fLd1 v9 H) fun v10 => bV (oFn (.func 113) 0 [(t4 E), (t1 E)]) fun v11 => T 86 [v10, (.fn (.func 87) [] []), v11] H fun v12 H => bV (fExt 0 v12) fun v13 => bV (fExt 1 v12) fun v14 => k (d3 (d2 E v13) v14) H)
 retC)))) [fun E _ => some (t2 E), fun E _ => some (t3 E)]
def pl53 : Nat × List (Nat × Plan) := (32736, [])
noncomputable def c54 : TT → FnC := fnC 1 ((seqC (rg fun T E H k => k (d2 E .nils) H)
 (seqC (seqC (rg fun T E H k => bV (fEql true .v (t0 E) .nils) fun v4 => k (d4 E v4) H)
 (condF t4
 (seqC (rg fun T E H k => k (d2 E .nils) H)
 retC)
 skipC))
 (seqC (rg fun T E H k => bM (fSlice 46 0 [] [] []) H fun v5 H => bE (fApp 46 5 56 v5 (t0 E) H) H fun v7 H => k (d2 E v7) H)
 retC)))) [fun E _ => some (t2 E)]
def pl54 : Nat × List (Nat × Plan) := (232, [])
noncomputable def c55 : TT → FnC := fnC 1 ((seqC (rg fun T E H k => k (d2 E .nils) H)
 (seqC (seqC (rg fun T E H k => bV (fEql true .v (t0 E) .nils) fun v4 => k (d4 E v4) H)
 (condF t4
 (seqC (rg fun T E H k => k (d2 E .nils) H)
 retC)
 skipC))
 (seqC (rg fun T E H k => bM (fSlice 67 0 [] [] []) H fun v5 H => bE (fApp 67 11 144 v5 (t0 E) H) H fun v7 H => k (d2 E v7) H)
 retC)))) [fun E _ => some (t2 E)]
def pl55 : Nat × List (Nat × Plan) := (232, [])
noncomputable def c56 : TT → FnC := fnC 1 ((seqC (rg fun T E H k => k (d2 E .nils) H)
 (seqC (seqC (rg fun T E H k => bV (fEql true .v (t0 E) .nils) fun v4 => k (d4 E v4) H)
 (condF t4
 (seqC (rg fun T E H k => k (d2 E .nils) H)
 retC)
 skipC))
 (seqC (rg fun T E H k => bM (fSlice 70 0 [] [] []) H fun v5 H => bE (fApp 70 4 64 v5 (t0 E) H) H fun v7 H => k (d2 E v7) H)
 retC)))) [fun E _ => some (t2 E)]
def pl56 : Nat × List (Nat × Plan) := (232, [])
noncomputable def c57 : TT → FnC := fnC 2 ((seqC (rg fun T E H k => bM (fBox 31 5 (t0 E)) H fun v2 H => k (d4 (d2 E v2) .nils) H)
 (seqC (rg fun T E H k => k (d5 E .nils) H)
 (seqC (seqC (rg fun T E H k => bV (fFad 4 (t2 E)) fun v8 => bV (fLd1 v8 H) fun v9 => bV (fLenV v9) fun v10 => k (d11 (d10 (d9 E v9) v10) (.int .i64 (.ofNat 0))) H)
 (blockC 0 (loopC (seqC (rg fun T E H k => bV (fLss (t11 E) (t10 E)) fun v12 => k (d12 E v12) H)
 (seqC (condF t12
 skipC
 (exitC 0))
 (seqC (blockC 1 (seqC (rg fun T E H k => bV (fIaS 4 (t9 E) (t11 E)) fun v13 => bV (fLdN 4 v13 H) fun v14 => bM (fNew 70 [(.str 0 0), (.str 0 0), (.str 0 0), (.str 0 0)] []) H fun v7 H => bE (fSt 4 v7 v14 H) H fun _ H => k (d7 E v7) H)
 (seqC (rg fun T E H k => bV (fLdN 4 (t7 E) H) fun v16 => onFnV [(t1 E), v16] fun f l => T f l H fun v17 H => k (d17 E v17) H)
 (condF t17
 (rg fun T E H k => bV (fFad 0 (t7 E)) fun v19 => bV (fLd1 v19 H) fun v20 => bM (fSlice 9 1 [(.str 0 0)] [(0, 1)] [v20]) H fun v21 H => bE (fApp 9 1 16 (t5 E) v21 H) H fun v22 H => k (d5 E v22) H)
 skipC))))
 (rg fun T E H k => bV (fAdd (t11 E) (.int .i64 (.ofNat 1))) fun v23 => k (d11 E v23) H)))))))
 (seqC (rg fun T E H k => k (d4 E (t5 E)) H)
 retC))))) [fun E _ => some (t4 E)]
def pl57 : Nat × List (Nat × Plan) := (33415424, [])
noncomputable def c58 : TT → FnC := fnC 2 ((seqC (rg fun T E H k => bM (fBox 70 4 (t0 E)) H fun v2 H => k (d3 (d2 E v2) (.bool false)) H)
 (seqC (rg fun T E H k => bV (fFad 2 (t2 E)) fun v4 => bV (fLd1 v4 H) fun v5 => bV (fLd1 (t1 E) H) fun v6 => bV (fEql false .s v5 v6) fun v7 => k (d3 E v7) H)
 retC))) [fun E _ => some (t3 E)]
def pl58 : Nat × List (Nat × Plan) := (240, [])
noncomputable def c59 : TT → FnC := fnC 2 ((seqC (rg fun T E H k => bM (fBox 70 4 (t0 E)) H fun v2 H => k (d3 (d2 E v2) (.bool false)) H)
 (seqC (rg fun T E H k => bV (fFad 1 (t2 E)) fun v4 => bV (fLd1 v4 H) fun v5 => bV (fLd1 (t1 E) H) fun v6 => bV (fEql false .s v5 v6) fun v7 => k (d3 E v7) H)
 retC))) [fun E _ => some (t3 E)]
def pl59 : Nat × List (Nat × Plan) := (240, [])
noncomputable def c60 : TT → FnC := fnC 1 ((seqC (rg fun T E H k => bV (fNilchk (t0 E)) fun v12 => bV (fFad 0 v12) fun v13 => bV (fLd1 v13 H) fun v14 => bV (fNilchk (t0 E)) fun v16 => bV (fFad 1 v16) fun v17 => bV (fLd1 v17 H) fun v18 => bV (oSlS true false [v14, v18]) fun v19 => T 115 [v19, (.str 1 32)] H fun v20 H => k (d2 E v20) H)
 (seqC (rg fun T E H k => bV (fNilchk (t0 E)) fun v23 => bV (fFad 0 v23) fun v24 => bV (fLd1 v24 H) fun v25 => bV (fLenS v25) fun v26 => bV (fLenS (t2 E)) fun v28 => bV (fSub v26 v28) fun v29 => bV (fNilchk (t0 E)) fun v30 => bV (fFad 1 v30) fun v31 => bE (fSt 1 v31 v29 H) H fun _ H => k E H)
 (seqC (rg fun T E H k => bV (fNilchk (t0 E)) fun v34 => bV (fFad 1 v34) fun v35 => bV (fLd1 v35 H) fun v36 => bV (fAgg [(.int .u8 (.ofNat 0)), (.int .u8 (.ofNat 0)), (.int .i64 (.ofNat 0)), (.bool false), (.str 0 0), (.str 0 0), .nils, (.str 0 0), (.int .i64 (.ofNat 0)), (.bool false)] [(8, 1), (9, 1)] [v36, (.bool true)]) fun v37 => bV (fNilchk (t0 E)) fun v38 => bV (fFad 2 v38) fun v39 => bE (fSt 10 v39 v37 H) H fun _ H => k E H)
 (seqC (seqC (rg fun T E H k => bV (fEql true .s (t2 E) (.str 0 0)) fun v41 => gdH v41 false H (fun rest => bV (some (t0 E)) fun v43 => rest v43 H) fun v43 H => gdH v41 false H (fun rest => bV (fNilchk v43) fun v44 => rest v44 H) fun v44 H => gdH v41 false H (fun rest => bV (fFad 12 v44) fun v45 => rest v45 H) fun v45 H => gdH v41 false H (fun rest => bV (fLd1 v45 H) fun v46 => rest v46 H) fun v46 H => gdH v41 false H (fun rest => bV (fNeq true .i v46 (.int .i64 (.ofNat 0))) fun v47 => rest v47 H) fun v47 H => bV (fPick v41 (.bool true) v47) fun v48 => k (d48 E v48) H)
 (condF t48
 retC
 skipC))
 (seqC (rg fun T E H k => bV (fNilchk (t0 E)) fun v50 => bV (fFad 2 v50) fun v51 => bV (fFad 9 v51) fun v52 => bE (fSt 1 v52 (.bool false) H) H fun _ H => k E H)
 (seqC (rg fun T E H k => bV (fIxS (t2 E) (.int .i64 (.ofNat 0))) fun v54 => k (d3 E v54) H)
 (blockC 0 (seqC (rg fun T E H k => T 116 [(t3 E)] H fun v122 H => k (d120 E v122) H)
 (condF t120
 (seqC (rg fun T E H k => T 117 [(t2 E), (.fn (.func 116) [] [])] H fun v124 H => k (d4 E v124) H)
 (seqC (rg fun T E H k => bV (oSlS false true [(t2 E), (t4 E)]) fun v128 => T 118 [(t0 E), v128] H fun v129 H => k E H)
 (rg fun T E H k => bV (fNilchk (t0 E)) fun v131 => bV (fFad 1 v131) fun v132 => bV (fLd1 v132 H) fun v133 => bV (fAdd v133 (t4 E)) fun v135 => bV (fNilchk (t0 E)) fun v136 => bV (fFad 1 v136) fun v137 => bE (fSt 1 v137 v135 H) H fun _ H => k E H)))
 (seqC (rg fun T E H k => T 119 [(t3 E)] H fun v140 H => k (d138 E v140) H)
 (condF t138
 (seqC (rg fun T E H k => T 117 [(t2 E), (.fn (.func 120) [] [])] H fun v142 H => k (d5 E v142) H)
 (seqC (rg fun T E H k => bV (oSlS false true [(t2 E), (t5 E)]) fun v146 => T 121 [(t0 E), v146] H fun v147 H => k E H)
 (rg fun T E H k => bV (fNilchk (t0 E)) fun v149 => bV (fFad 1 v149) fun v150 => bV (fLd1 v150 H) fun v151 => bV (fAdd v151 (t5 E)) fun v153 => bV (fNilchk (t0 E)) fun v154 => bV (fFad 1 v154) fun v155 => bE (fSt 1 v155 v153 H) H fun _ H => k E H)))
 (seqC (rg fun T E H k => bV (fEql true .i (t3 E) (.int .u8 (.ofNat 39))) fun v158 => k (d156 E v158) H)
 (condF t156
 (rg fun T E H k => T 122 [(t0 E), (t2 E)] H fun v161 H => k E H)
 (seqC (rg fun T E H k => k (d6 E (.int .i64 (.ofNat 1))) H)
 (seqC (seqC (rg fun T E H k => bV (fLenS (t2 E)) fun v59 => bV (oMin (.int .i64 (.ofNat 2)) v59) fun v60 => bV (oSlS false true [(t2 E), v60]) fun v61 => T 67 [] H fun v56 H => bV (oLk .s (.agg [(.int .u8 (.ofNat 0)), (.int .i64 (.ofNat 0))]) true v56 v61 H) fun v62 => bV (fExt 0 v62) fun v63 => bV (fExt 1 v62) fun v64 => bM (fNew 118 [(.int .u8 (.ofNat 0)), (.int .i64 (.ofNat 0))] []) H fun v7 H => bE (fSt 2 v7 v63 H) H fun _ H => k (d8 E v64) H)
 (seqC (rg fun T E H k => gdH (t8 E) true H (fun rest => bV (some (t2 E)) fun v67 => rest v67 H) fun v67 H => gdH (t8 E) true H (fun rest => bV (fLenS v67) fun v68 => rest v68 H) fun v68 H => gdH (t8 E) true H (fun rest => bV (fGtr v68 (.int .i64 (.ofNat 1))) fun v69 => rest v69 H) fun v69 H => bV (fPick (t8 E) v69 (.bool false)) fun v70 => k (d70 E v70) H)
 (condF t70
 (rg fun T E H k => k (d6 E (.int .i64 (.ofNat 2))) H)
 skipC)))
 (seqC (rg fun T E H k => bV (oSlS false true [(t2 E), (t6 E)]) fun v74 => bV (fNilchk (t0 E)) fun v75 => bV (fFad 2 v75) fun v76 => bV (fFad 7 v76) fun v77 => bE (fSt 1 v77 v74 H) H fun _ H => k E H)
 (seqC (seqC (rg fun T E H k => bV (fNilchk (t0 E)) fun v81 => bV (fFad 2 v81) fun v82 => bV (fFad 7 v82) fun v83 => bV (fLd1 v83 H) fun v84 => T 67 [] H fun v79 H => agn (fLd1 v83 H) v84 <| bV (oLk .s (.agg [(.int .u8 (.ofNat 0)), (.int .i64 (.ofNat 0))]) true v79 v84 H) fun v85 => bV (fExt 0 v85) fun v86 => bV (fExt 1 v85) fun v87 => bM (fNew 118 [(.int .u8 (.ofNat 0)), (.int .i64 (.ofNat 0))] []) H fun v9 H => bE (fSt 2 v9 v86 H) H fun _ H => k (d10 E v87) H)
 (seqC (rg fun T E H k => bV (fNot (t10 E)) fun v89 => gdH v89 true H (fun rest => bV (some (t0 E)) fun v91 => rest v91 H) fun v91 H => gdH v89 true H (fun rest => bV (fNilchk v91) fun v92 => rest v92 H) fun v92 H => gdH v89 true H (fun rest => bV (fFad 2 v92) fun v93 => rest v93 H) fun v93 H => gdH v89 true H (fun rest => bV (fFad 7 v93) fun v94 => rest v94 H) fun v94 H => gdH v89 true H (fun rest => bV (fLd1 v94 H) fun v95 => rest v95 H) fun v95 H => gdH v89 true H (fun rest => bV (fNeq true .s v95 (.str 1 40)) fun v96 => rest v96 H) fun v96 H => bV (fPick v89 v96 (.bool false)) fun v97 => gdH v97 true H (fun rest => bV (some (t0 E)) fun v99 => rest v99 H) fun v99 H => gdH v97 true H (fun rest => bV (fNilchk v99) fun v100 => rest v100 H) fun v100 H => gdH v97 true H (fun rest => bV (fFad 2 v100) fun v101 => rest v101 H) fun v101 H => gdH v97 true H (fun rest => bV (fFad 7 v101) fun v102 => rest v102 H) fun v102 H => gdH v97 true H (fun rest => bV (fLd1 v102 H) fun v103 => rest v103 H) fun v103 H => gdH v97 true H (fun rest => bV (fNeq true .s v103 (.str 1 41)) fun v104 => rest v104 H) fun v104 H => bV (fPick v97 v104 (.bool false)) fun v105 => k (d105 E v105) H)
 (condF t105
 (rg fun T E H k => bV (fNilchk (t0 E)) fun v108 => bV (fFad 1 v108) fun v109 => bV (fLd1 v109 H) fun v110 => T 63 [(t0 E), (.int .i64 (.ofNat 4)), v110] H fun v111 H => k E H)
 skipC)))
 (rg fun T E H k => bV (fNilchk (t0 E)) fun v113 => bV (fFad 1 v113) fun v114 => bV (fLd1 v114 H) fun v115 => bV (fAdd v115 (t6 E)) fun v117 => bV (fNilchk (t0 E)) fun v118 => bV (fFad 1 v118) fun v119 => bE (fSt 1 v119 v117 H) H fun _ H => k E H))))))))))))))))))) []
def pl60 : Nat × List (Nat × Plan) := (5754662348539957244825418317967929822617414924928, [(0, ⟨[0, 1, 2, 3, 4, 5, 6, 7, 8, 9, 10], [0, 1, 3, 7, 0, 16, 48, 112, 255, 511, 1023]⟩), (7, ⟨[1, 2, 3, 4, 5, 0, 6, 7, 8, 9, 10, 11, 12], [0, 0, 0, 4, 12, 30, 63, 127, 255, 255, 0, 1535, 4095]⟩), (11, ⟨[1, 2, 3, 4, 5, 0, 6, 7, 8, 9, 10, 11, 12], [0, 0, 2, 6, 14, 30, 63, 127, 255, 255, 0, 1535, 4095]⟩)])
noncomputable def c62 : TT → FnC := fnC 1 ((seqC (rg fun T E H k => bM (fNew 73 [(.int .u8 (.ofNat 0)), (.int .u8 (.ofNat 0)), (.int .i64 (.ofNat 0)), (.bool false), (.str 0 0), (.str 0 0), .nils] []) H fun v1 H => k (d1 E v1) H)
 (seqC (rg fun T E H k => bV (fLd1 (t0 E) H) fun v3 => bV (fNilchk v3) fun v4 => bV (fFad 2 v4) fun v5 => bV (fFad 0 v5) fun v6 => bV (fLdN 7 v6 H) fun v7 => bM (fNew 73 [(.int .u8 (.ofNat 0)), (.int .u8 (.ofNat 0)), (.int .i64 (.ofNat 0)), (.bool false), (.str 0 0), (.str 0 0), .nils] []) H fun v2 H => bE (fSt 7 v2 v7 H) H fun _ H => k (d2 E v2) H)
 (seqC (seqC (rg fun T E H k => bV (fFad 0 (t2 E)) fun v8 => bV (fLd1 v8 H) fun v9 => bV (fEql true .i v9 (.int .u8 (.ofNat 0))) fun v10 => k (d10 E v10) H)
 (condF t10
 (rg fun T E H k => bV (fLd1 (t0 E) H) fun v11 => bV (fLd1 (t0 E) H) fun v12 => bV (fNilchk v12) fun v13 => bV (fFad 2 v13) fun v14 => bV (fFad 8 v14) fun v15 => bV (fLd1 v15 H) fun v16 => T 63 [v11, (.int .i64 (.ofNat 4)), v16] H fun v17 H => k E H)
 skipC))
 (seqC (rg fun T E H k => bV (fLd1 (t0 E) H) fun v18 => T 60 [v18] H fun v19 H => k E H)
 (seqC (rg fun T E H k => bV (fLdN 7 (t2 E) H) fun v20 => bE (fSt 7 (t1 E) v20 H) H fun _ H => k E H)
 retC)))))) [fun E H => onPtr (t1 E) fun id off => onOpt (loadN H id off 7) fun l => some (.agg l)]
def pl62 : Nat × List (Nat × Plan) := (2096120, [(3, ⟨[0, 1, 2, 3, 4, 5, 6], [0, 0, 2, 6, 14, 30, 63]⟩)])
noncomputable def c65 : TT → FnC := fnC 5 ((seqC (rg fun T E H k => bM (fNew 73 [(.int .u8 (.ofNat 0)), (.int .u8 (.ofNat 0)), (.int .i64 (.ofNat 0)), (.bool false), (.str 0 0), (.str 0 0), .nils] []) H fun v6 H => k (d6 E v6) H)
 (seqC (blockC 0 (seqC (rg fun T E H k => bV (fLd1 (t1 E) H) fun v8 => bV (fNilchk v8) fun v9 => bV (fFad 2 v9) fun v10 => bV (fFad 7 v10) fun v11 => bV (fLd1 v11 H) fun v12 => bV (fEql true .s v12 (.str 3 7237492)) fun v13 => gdH v13 true H (fun rest => bV (some (t0 E)) fun v15 => rest v15 H) fun v15 H => gdH v13 true H (fun rest => bV (fLeq v15 (.int .i64 (.ofNat 3))) fun v16 => rest v16 H) fun v16 H => bV (fPick v13 v16 (.bool false)) fun v17 => k (d7 E v17) H)
 (condF t7
 (seqC (rg fun T E H k => bV (fLd1 (t2 E) H) fun v18 => onFnV [v18, (.int .u8 (.ofNat 3)), (.int .i64 (.ofNat 3))] fun f l => T f l H fun v19 H => bE (fSt 7 (t6 E) v19 H) H fun _ H => k E H)
 retC)
 (seqC (rg fun T E H k => bV (fLd1 (t1 E) H) fun v21 => bV (fNilchk v21) fun v22 => bV (fFad 2 v22) fun v23 => bV (fFad 7 v23) fun v24 => bV (fLd1 v24 H) fun v25 => bV (fEql true .s v25 (.str 1 45)) fun v26 => k (d20 E v26) H)
 (condF t20
 (seqC (rg fun T E H k => bV (fLd1 (t2 E) H) fun v27 => onFnV [v27, (.int .u8 (.ofNat 4)), (.int .i64 (.ofNat 7))] fun f l => T f l H fun v28 H => bE (fSt 7 (t6 E) v28 H) H fun _ H => k E H)
 retC)
 (seqC (rg fun T E H k => bV (fLd1 (t1 E) H) fun v30 => bV (fNilchk v30) fun v31 => bV (fFad 2 v31) fun v32 => bV (fFad 7 v32) fun v33 => bV (fLd1 v33 H) fun v34 => bV (fEql true .s v34 (.str 1 40)) fun v35 => k (d29 E v35) H)
 (condF t29
 (seqC (rg fun T E H k => bV (fLd1 (t3 E) H) fun v36 => onFnV [v36] fun f l => T f l H fun v37 H => bE (fSt 7 (t6 E) v37 H) H fun _ H => k E H)
 retC)
 skipC)))))))
 (seqC (rg fun T E H k => bV (fLd1 (t4 E) H) fun v38 => onFnV [v38] fun f l => T f l H fun v39 H => bE (fSt 7 (t6 E) v39 H) H fun _ H => k E H)
 retC)))) [fun E H => onPtr (t6 E) fun id off => onOpt (loadN H id off 7) fun l => some (.agg l)]
def pl65 : Nat × List (Nat × Plan) := (1098973708032, [])
noncomputable def c66 : TT → FnC := fnC 4 ((seqC (rg fun T E H k => bM (fNew 73 [(.int .u8 (.ofNat 0)), (.int .u8 (.ofNat 0)), (.int .i64 (.ofNat 0)), (.bool false), (.str 0 0), (.str 0 0), .nils] []) H fun v5 H => k (d5 E v5) H)
 (seqC (seqC (rg fun T E H k => bV (fLd1 (t1 E) H) fun v10 => bV (fNilchk v10) fun v11 => bV (fFad 12 v11) fun v12 => bV (fLd1 v12 H) fun v13 => bV (fNeq true .i v13 (.int .i64 (.ofNat 0))) fun v14 => k (d14 E v14) H)
 (condF t14
 (seqC (rg fun T E H k => bV (fAgg [(.int .u8 (.ofNat 0)), (.int .u8 (.ofNat 0)), (.int .i64 (.ofNat 0)), (.bool false), (.str 0 0), (.str 0 0), .nils] [] []) fun v15 => bE (fSt 7 (t5 E) v15 H) H fun _ H => k E H)
 retC)
 skipC))
 (seqC (rg fun T E H k => bV (fLd1 (t2 E) H) fun v16 => onFnV [v16, (t0 E)] fun f l => T f l H fun v18 H => bM (fNew 73 [(.int .u8 (.ofNat 0)), (.int .u8 (.ofNat 0)), (.int .i64 (.ofNat 0)), (.bool false), (.str 0 0), (.str 0 0), .nils] []) H fun v6 H => bE (fSt 7 v6 v18 H) H fun _ H => k (d6 E v6) H)
 (seqC (blockC 0 (loopC (seqC (seqC (rg fun T E H k => bV (fLd1 (t1 E) H) fun v19 => bV (fNilchk v19) fun v20 => bV (fFad 12 v20) fun v21 => bV (fLd1 v21 H) fun v22 => bV (fEql true .i v22 (.int .i64 (.ofNat 0))) fun v23 => k (d23 E v23) H)
 (condF t23
 skipC
 (exitC 0)))
 (blockC 1 (seqC (rg fun T E H k => bV (fLd1 (t1 E) H) fun v26 => bV (fNilchk v26) fun v27 => bV (fFad 2 v27) fun v28 => bV (fFad 7 v28) fun v29 => bV (fLd1 v29 H) fun v30 => T 67 [] H fun v25 H => agn (fLd1 v29 H) v30 <| agn (fLd1 (t1 E) H) v26 <| bV (oLk .s (.agg [(.int .u8 (.ofNat 0)), (.int .i64 (.ofNat 0))]) true v25 v30 H) fun v31 => bV (fExt 0 v31) fun v32 => bV (fExt 1 v31) fun v33 => bM (fNew 118 [(.int .u8 (.ofNat 0)), (.int .i64 (.ofNat 0))] []) H fun v7 H => bE (fSt 2 v7 v32 H) H fun _ H => k (d8 (d7 E v7) v33) H)
 (seqC (seqC (rg fun T E H k => bV (fNot (t8 E)) fun v35 => gdH v35 false H (fun rest => bV (fFad 1 (t7 E)) fun v37 => rest v37 H) fun v37 H => gdH v35 false H (fun rest => bV (fLd1 v37 H) fun v38 => rest v38 H) fun v38 H => gdH v35 false H (fun rest => bV (some (t0 E)) fun v39 => rest v39 H) fun v39 H => gdH v35 false H (fun rest => bV (fLss v38 v39) fun v40 => rest v40 H) fun v40 H => bV (fPick v35 (.bool true) v40) fun v41 => k (d41 E v41) H)
 (condF t41
 (seqC (rg fun T E H k => bV (fLdN 7 (t6 E) H) fun v42 => bE (fSt 7 (t5 E) v42 H) H fun _ H => k E H)
 retC)
 skipC))
 (seqC (rg fun T E H k => bV (fLd1 (t1 E) H) fun v43 => T 60 [v43] H fun v44 H => k E H)
 (seqC (rg fun T E H k => bV (fFad 0 (t7 E)) fun v45 => bV (fLd1 v45 H) fun v46 => bV (fLdN 7 (t6 E) H) fun v47 => bV (fLd1 (t3 E) H) fun v48 => bV (fFad 1 (t7 E)) fun v49 => bV (fLd1 v49 H) fun v50 => bV (fAdd v50 (.int .i64 (.ofNat 1))) fun v51 => onFnV [v48, v51] fun f l => T f l H fun v52 H => agn (fLdN 7 (t6 E) H) v47 <| agn (fLd1 v45 H) v46 <| bM (fSlice 73 2 [(.int .u8 (.ofNat 0)), (.int .u8 (.ofNat 0)), (.int .i64 (.ofNat 0)), (.bool false), (.str 0 0), (.str 0 0), .nils, (.int .u8 (.ofNat 0)), (.int .u8 (.ofNat 0)), (.int .i64 (.ofNat 0)), (.bool false), (.str 0 0), (.str 0 0), .nils] [(0, 7), (7, 7)] [v47, v52]) H fun v53 H => bV (fAgg [(.int .u8 (.ofNat 0)), (.int .u8 (.ofNat 0)), (.int .i64 (.ofNat 0)), (.bool false), (.str 0 0), (.str 0 0), .nils] [(0, 1), (6, 1)] [v46, v53]) fun v54 => bE (fSt 7 (t6 E) v54 H) H fun _ H => k E H)
 (seqC (rg fun T E H k => bV (fLd1 (t1 E) H) fun v56 => bV (fNilchk v56) fun v57 => bV (fFad 2 v57) fun v58 => bV (fFad 7 v58) fun v59 => bV (fLd1 v59 H) fun v60 => T 67 [] H fun v55 H => agn (fLd1 v59 H) v60 <| agn (fLd1 (t1 E) H) v56 <| bV (oLk .s (.agg [(.int .u8 (.ofNat 0)), (.int .i64 (.ofNat 0))]) false v55 v60 H) fun v61 => bM (fNew 118 [(.int .u8 (.ofNat 0)), (.int .i64 (.ofNat 0))] []) H fun v9 H => bE (fSt 2 v9 v61 H) H fun _ H => k (d9 E v9) H)
 (seqC (rg fun T E H k => bV (fFad 1 (t7 E)) fun v62 => bV (fLd1 v62 H) fun v63 => bV (fEql true .i v63 (.int .i64 (.ofNat 4))) fun v64 => gdH v64 true H (fun rest => bV (fFad 1 (t9 E)) fun v66 => rest v66 H) fun v66 H => gdH v64 true H (fun rest => bV (fLd1 v66 H) fun v67 => rest v67 H) fun v67 H => gdH v64 true H (fun rest => bV (fEql true .i v67 (.int .i64 (.ofNat 4))) fun v68 => rest v68 H) fun v68 H => bV (fPick v64 v68 (.bool false)) fun v69 => k (d69 E v69) H)
 (condF t69
 (rg fun T E H k => bV (fLd1 (t1 E) H) fun v70 => bV (fLd1 (t1 E) H) fun v71 => bV (fNilchk v71) fun v72 => bV (fFad 2 v72) fun v73 => bV (fFad 8 v73) fun v74 => bV (fLd1 v74 H) fun v75 => T 63 [v70, (.int .i64 (.ofNat 4)), v75] H fun v76 H => k E H)
 skipC)))))))))))
 (seqC (rg fun T E H k => bV (fLdN 7 (t6 E) H) fun v77 => bE (fSt 7 (t5 E) v77 H) H fun _ H => k E H)
 retC)))))) [fun E H => onPtr (t5 E) fun id off => onOpt (loadN H id off 7) fun l => some (.agg l)]
def pl66 : Nat × List (Nat × Plan) := (301641159091099556363264, [(5, ⟨[1, 2, 3, 4, 5, 0, 6, 7, 8, 9, 10, 11, 12], [0, 0, 2, 6, 14, 30, 63, 127, 255, 255, 0, 1535, 4095]⟩), (9, ⟨[0, 1, 2, 3, 4, 5, 6, 7, 8, 9, 10], [0, 1, 0, 0, 0, 16, 48, 120, 252, 511, 1023]⟩), (10, ⟨[1, 2, 3, 4, 5, 0, 6, 7, 8], [0, 0, 2, 6, 14, 30, 63, 0, 255]⟩), (12, ⟨[0, 1, 2, 3, 4, 5, 6], [0, 0, 2, 6, 14, 30, 63]⟩)])
noncomputable def c67 : TT → FnC := fnC 0 ((seqC (rg fun T E H k => k (d0 E .nilm) H)
 (seqC (rg fun T E H k => bM (aMap []) H fun v1 H => bV (fAgg [(.int .u8 (.ofNat 0)), (.int .i64 (.ofNat 0))] [(0, 1), (1, 1)] [(.int .u8 (.ofNat 6)), (.int .i64 (.ofNat 1))]) fun v2 => bE (oMu .s v1 (.str 2 28530) v2 H) H fun _ H => bV (fAgg [(.int .u8 (.ofNat 0)), (.int .i64 (.ofNat 0))] [(0, 1), (1, 1)] [(.int .u8 (.ofNat 5)), (.int .i64 (.ofNat 2))]) fun v3 => bE (oMu .s v1 (.str 3 6385252) v3 H) H fun _ H => bV (fAgg [(.int .u8 (.ofNat 0)), (.int .i64 (.ofNat 0))] [(0, 1), (1, 1)] [(.int .u8 (.ofNat 7)), (.int .i64 (.ofNat 4))]) fun v4 => bE (oMu .s v1 (.str 1 61) v4 H) H fun _ H => bV (fAgg [(.int .u8 (.ofNat 0)), (.int .i64 (.ofNat 0))] [(0, 1), (1, 1)] [(.int .u8 (.ofNat 8)), (.int .i64 (.ofNat 4))]) fun v5 => bE (oMu .s v1 (.str 2 8509) v5 H) H fun _ H => bV (fAgg [(.int .u8 (.ofNat 0)), (.int .i64 (.ofNat 0))] [(0, 1), (1, 1)] [(.int .u8 (.ofNat 9)), (.int .i64 (.ofNat 4))]) fun v6 => bE (oMu .s v1 (.str 1 60) v6 H) H fun _ H => bV (fAgg [(.int .u8 (.ofNat 0)), (.int .i64 (.ofNat 0))] [(0, 1), (1, 1)] [(.int .u8 (.ofNat 10)), (.int .i64 (.ofNat 4))]) fun v7 => bE (oMu .s v1 (.str 2 15421) v7 H) H fun _ H => bV (fAgg [(.int .u8 (.ofNat 0)), (.int .i64 (.ofNat 0))] [(0, 1), (1, 1)] [(.int .u8 (.ofNat 11)), (.int .i64 (.ofNat 4))]) fun v8 => bE (oMu .s v1 (.str 1 62) v8 H) H fun _ H => bV (fAgg [(.int .u8 (.ofNat 0)), (.int .i64 (.ofNat 0))] [(0, 1), (1, 1)] [(.int .u8 (.ofNat 12)), (.int .i64 (.ofNat 4))]) fun v9 => bE (oMu .s v1 (.str 2 15933) v9 H) H fun _ H => bV (fAgg [(.int .u8 (.ofNat 0)), (.int .i64 (.ofNat 0))] [(0, 1), (1, 1)] [(.int .u8 (.ofNat 13)), (.int .i64 (.ofNat 5))]) fun v10 => bE (oMu .s v1 (.str 1 43) v10 H) H fun _ H => bV (fAgg [(.int .u8 (.ofNat 0)), (.int .i64 (.ofNat 0))] [(0, 1), (1, 1)] [(.int .u8 (.ofNat 14)), (.int .i64 (.ofNat 5))]) fun v11 => bE (oMu .s v1 (.str 1 45) v11 H) H fun _ H => bV (fAgg [(.int .u8 (.ofNat 0)), (.int .i64 (.ofNat 0))] [(0, 1), (1, 1)] [(.int .u8 (.ofNat 15)), (.int .i64 (.ofNat 6))]) fun v12 => bE (oMu .s v1 (.str 1 42) v12 H) H fun _ H => bV (fAgg [(.int .u8 (.ofNat 0)), (.int .i64 (.ofNat 0))] [(0, 1), (1, 1)] [(.int .u8 (.ofNat 16)), (.int .i64 (.ofNat 6))]) fun v13 => bE (oMu .s v1 (.str 1 47) v13 H) H fun _ H => bV (fAgg [(.int .u8 (.ofNat 0)), (.int .i64 (.ofNat 0))] [(0, 1), (1, 1)] [(.int .u8 (.ofNat 17)), (.int .i64 (.ofNat 6))]) fun v14 => bE (oMu .s v1 (.str 1 37) v14 H) H fun _ H => k (d0 E v1) H)
 retC))) [fun E _ => some (t0 E)]
def pl67 : Nat × List (Nat × Plan) := (65534, [])
noncomputable def c68 : TT → FnC := fnC 3 ((seqC (rg fun T E H k => k (d6 E (.bool false)) H)
 (seqC (seqC (rg fun T E H k => bV (fLenV (t0 E)) fun v11 => bV (fLenV (t1 E)) fun v13 => bV (fNeq false .i v11 v13) fun v14 => k (d14 E v14) H)
 (condF t14
 (seqC (rg fun T E H k => k (d6 E (.bool false)) H)
 retC)
 skipC))
 (seqC (seqC (rg fun T E H k => bV (fLenV (t0 E)) fun v16 => k (d17 (d16 (d15 E (t0 E)) v16) (.int .i64 (.ofNat 0))) H)
 (blockC 0 (loopC (seqC (rg fun T E H k => bV (fLss (t17 E) (t16 E)) fun v18 => k (d18 E v18) H)
 (seqC (condF t18
 skipC
 (exitC 0))
 (seqC (blockC 1 (seqC (rg fun T E H k => bV (fIaS 5 (t15 E) (t17 E)) fun v20 => bV (fLdN 5 v20 H) fun v21 => bM (fNew 46 [(.str 0 0), (.int .u8 (.ofNat 0)), (.int .i64 (.ofNat 0)), (.bool false), (.str 0 0)] []) H fun v8 H => bE (fSt 5 v8 v21 H) H fun _ H => k (d7 (d8 E v8) (t17 E)) H)
 (seqC (rg fun T E H k => bV (fIaS 5 (t1 E) (t7 E)) fun v24 => bV (fLdN 5 v24 H) fun v25 => bM (fNew 46 [(.str 0 0), (.int .u8 (.ofNat 0)), (.int .i64 (.ofNat 0)), (.bool false), (.str 0 0)] []) H fun v9 H => bE (fSt 5 v9 v25 H) H fun _ H => k (d9 E v9) H)
 (seqC (rg fun T E H k => bV (fLdN 5 (t8 E) H) fun v27 => bV (fLdN 5 (t9 E) H) fun v28 => onFnV [(t2 E), v27, v28] fun f l => T f l H fun v29 H => bV (fNot v29) fun v30 => k (d30 E v30) H)
 (condF t30
 (seqC (rg fun T E H k => k (d6 E (.bool false)) H)
 retC)
 skipC)))))
 (rg fun T E H k => bV (fAdd (t17 E) (.int .i64 (.ofNat 1))) fun v31 => k (d17 E v31) H)))))))
 (seqC (rg fun T E H k => k (d6 E (.bool true)) H)
 retC))))) [fun E _ => some (t6 E)]
def pl68 : Nat × List (Nat × Plan) := (3220716544, [])
noncomputable def c69 : TT → FnC := fnC 2 ((seqC (rg fun T E H k => bM (fBox 46 5 (t0 E)) H fun v2 H => bM (fBox 46 5 (t1 E)) H fun v3 H => k (d4 (d3 (d2 E v2) v3) (.bool false)) H)
 (seqC (rg fun T E H k => bV (fFad 0 (t2 E)) fun v5 => bV (fLd1 v5 H) fun v6 => bV (fFad 0 (t3 E)) fun v7 => bV (fLd1 v7 H) fun v8 => bV (fEql false .s v6 v8) fun v9 => gdH v9 true H (fun rest => bV (fFad 1 (t2 E)) fun v11 => rest v11 H) fun v11 H => gdH v9 true H (fun rest => bV (fFad 0 v11) fun v12 => rest v12 H) fun v12 H => gdH v9 true H (fun rest => bV (fLd1 v12 H) fun v13 => rest v13 H) fun v13 H => gdH v9 true H (fun rest => bV (fFad 1 (t3 E)) fun v14 => rest v14 H) fun v14 H => gdH v9 true H (fun rest => bV (fFad 0 v14) fun v15 => rest v15 H) fun v15 H => gdH v9 true H (fun rest => bV (fLd1 v15 H) fun v16 => rest v16 H) fun v16 H => gdH v9 true H (fun rest => bV (fEql false .i v13 v16) fun v17 => rest v17 H) fun v17 H => bV (fPick v9 v17 (.bool false)) fun v18 => gdH v18 true H (fun rest => bV (fFad 1 (t2 E)) fun v20 => rest v20 H) fun v20 H => gdH v18 true H (fun rest => bV (fLdN 4 v20 H) fun v21 => rest v21 H) fun v21 H => gdH v18 true H (fun rest => T 70 [v21] H fun v22 H => rest v22 H) fun v22 H => gdH v18 true H (fun rest => bV (fEql true .i v22 (.int .i64 (.ofNat 0))) fun v23 => rest v23 H) fun v23 H => bV (fPick v18 v23 (.bool false)) fun v24 => k (d4 E v24) H)
 retC))) [fun E _ => some (t4 E)]
def pl69 : Nat × List (Nat × Plan) := (33554400, [])
noncomputable def c70 : TT → FnC := fnC 1 ((seqC (rg fun T E H k => bM (fBox 43 4 (t0 E)) H fun v1 H => k (d2 (d1 E v1) (.int .i64 (.ofNat 0))) H)
 (seqC (rg fun T E H k => k (d3 E (.bool false)) H)
 (seqC (seqC (rg fun T E H k => bV (fFad 0 (t1 E)) fun v4 => bV (fLd1 v4 H) fun v5 => k (d5 E v5) H)
 (blockC 0 (seqC (rg fun T E H k => bV (fEql true .i (t5 E) (.int .u8 (.ofNat 1))) fun v7 => k (d6 E v7) H)
 (condF t6
 (rg fun T E H k => bV (fLdN 4 (t1 E) H) fun v8 => bV (fFad 1 (t1 E)) fun v9 => bV (fLd1 v9 H) fun v10 => T 9 [v10] H fun v11 H => agn (fLdN 4 (t1 E) H) v8 <| bV (fEql false (.agg [.i, .i, .b, .s]) v8 v11) fun v12 => k (d3 E v12) H)
 (seqC (rg fun T E H k => bV (fEql true .i (t5 E) (.int .u8 (.ofNat 2))) fun v14 => k (d13 E v14) H)
 (condF t13
 (rg fun T E H k => bV (fLdN 4 (t1 E) H) fun v15 => bV (fFad 2 (t1 E)) fun v16 => bV (fLd1 v16 H) fun v17 => T 123 [v17] H fun v18 H => agn (fLdN 4 (t1 E) H) v15 <| bV (fEql false (.agg [.i, .i, .b, .s]) v15 v18) fun v19 => k (d3 E v19) H)
 (seqC (rg fun T E H k => bV (fEql true .i (t5 E) (.int .u8 (.ofNat 3))) fun v21 => k (d20 E v21) H)
 (condF t20
 (rg fun T E H k => bV (fLdN 4 (t1 E) H) fun v22 => bV (fFad 3 (t1 E)) fun v23 => bV (fLd1 v23 H) fun v24 => T 41 [v24] H fun v25 H => agn (fLdN 4 (t1 E) H) v22 <| bV (fEql false (.agg [.i, .i, .b, .s]) v22 v25) fun v26 => gdH v26 true H (fun rest => bV (fFad 3 (t1 E)) fun v28 => rest v28 H) fun v28 H => gdH v26 true H (fun rest => bV (fLd1 v28 H) fun v29 => rest v29 H) fun v29 H => gdH v26 true H (fun rest => bV (fLenS v29) fun v30 => rest v30 H) fun v30 H => gdH v26 true H (fun rest => bV (fLeq v30 (.int .i64 (.ofNat 1024))) fun v31 => rest v31 H) fun v31 H => bV (fPick v26 v31 (.bool false)) fun v32 => gdH v32 true H (fun rest => bV (fFad 3 (t1 E)) fun v34 => rest v34 H) fun v34 H => gdH v32 true H (fun rest => bV (fLd1 v34 H) fun v35 => rest v35 H) fun v35 H => gdH v32 true H (fun rest => T 124 [v35] H fun v36 H => rest v36 H) fun v36 H => bV (fPick v32 v36 (.bool false)) fun v37 => k (d3 E v37) H)
 skipC))))))))
 (seqC (seqC (rg fun T E H k => bV (fNot (t3 E)) fun v39 => k (d39 E v39) H)
 (condF t39
 (seqC (rg fun T E H k => k (d2 E (.int .i64 (.ofNat 1))) H)
 retC)
 skipC))
 (seqC (rg fun T E H k => k (d2 E (.int .i64 (.ofNat 0))) H)
 retC)))))) [fun E _ => some (t2 E)]
def pl70 : Nat × List (Nat × Plan) := (549754757008, [(4, ⟨[0, 1, 2, 3, 4, 5], [0, 0, 2, 6, 15, 31]⟩), (6, ⟨[0, 1, 2, 3, 4, 5], [0, 0, 2, 6, 15, 31]⟩), (8, ⟨[0, 1, 2, 3, 4, 5, 6, 7, 8, 9, 10, 11, 12, 13, 14, 15, 16], [0, 0, 2, 6, 15, 31, 63, 127, 255, 511, 1023, 2047, 4095, 8191, 16383, 32767, 65535]⟩)])
noncomputable def c71 : TT → FnC := fnC 2 ((seqC (rg fun T E H k => bV (fNilchk (t0 E)) fun v5 => bV (fFad 5 v5) fun v6 => bV (fLd1 v6 H) fun v7 => bV (fAdd v7 (.int .i64 (.ofNat 1))) fun v8 => bV (fNilchk (t0 E)) fun v9 => bV (fFad 5 v9) fun v10 => bE (fSt 1 v10 v8 H) H fun _ H => k E H)
 (rg fun T E H k => bV (fNilchk (t0 E)) fun v13 => bV (fFad 2 v13) fun v14 => bV (fLd1 v14 H) fun v15 => bV (fNilchk (t0 E)) fun v18 => bV (fFad 5 v18) fun v19 => bV (fLd1 v19 H) fun v20 => bV (fAgg [(.str 0 0), (.int .i64 (.ofNat 0)), (.int .i64 (.ofNat 0)), (.str 0 0), (.bool false)] [(0, 1), (1, 1)] [(t1 E), v20]) fun v21 => bM (fSlice 130 1 [(.str 0 0), (.int .i64 (.ofNat 0)), (.int .i64 (.ofNat 0)), (.str 0 0), (.bool false)] [(0, 5)] [v21]) H fun v22 H => bE (fApp 130 5 56 v15 v22 H) H fun v23 H => bV (fNilchk (t0 E)) fun v24 => bV (fFad 2 v24) fun v25 => bE (fSt 1 v25 v23 H) H fun _ H => k E H))) []
def pl71 : Nat × List (Nat × Plan) := (67108848, [(1, ⟨[0, 1, 2, 3, 4, 5, 6, 7, 8, 9, 10, 11, 12, 13, 14, 15], [0, 0, 2, 6, 14, 0, 0, 64, 192, 448, 992, 2016, 4094, 8191, 16383, 32767]⟩)])
noncomputable def c72 : TT → FnC := fnC 1 ((seqC (rg fun T E H k => k (d2 E (.int .i64 (.ofNat 0))) H)
 (seqC (rg fun T E H k => T 125 [] H fun v7 H => k (d3 E v7) H)
 (seqC skipC
 (seqC (blockC 0 (loopC (seqC (seqC (rg fun T E H k => bV (fNilchk (t0 E)) fun v9 => bV (fFad 4 v9) fun v10 => bV (fLd1 v10 H) fun v11 => bV (fLenV v11) fun v12 => bV (fLeq v12 (.int .i64 (.ofNat 1024))) fun v13 => k (d13 E v13) H)
 (condF t13
 skipC
 (exitC 0)))
 (blockC 1 (seqC (seqC (rg fun T E H k => bV (fNilchk (t0 E)) fun v15 => bV (fFad 2 v15) fun v16 => bV (fLd1 v16 H) fun v17 => bV (fLenV v17) fun v18 => k (d19 (d18 (d17 E v17) v18) (.int .i64 (.ofNat 0))) H)
 (blockC 2 (loopC (seqC (rg fun T E H k => bV (fLss (t19 E) (t18 E)) fun v20 => k (d20 E v20) H)
 (seqC (condF t20
 skipC
 (exitC 2))
 (seqC (blockC 3 (seqC (rg fun T E H k => bV (fIaS 5 (t17 E) (t19 E)) fun v22 => bV (fLdN 5 v22 H) fun v23 => bM (fNew 130 [(.str 0 0), (.int .i64 (.ofNat 0)), (.int .i64 (.ofNat 0)), (.str 0 0), (.bool false)] []) H fun v5 H => bE (fSt 5 v5 v23 H) H fun _ H => k (d4 (d5 E v5) (t19 E)) H)
 (seqC (rg fun T E H k => bV (fNilchk (t0 E)) fun v25 => bV (fFad 0 v25) fun v26 => bV (fLd1 v26 H) fun v27 => bV (fNilchk v27) fun v28 => bV (fFad 5 v28) fun v29 => bV (fLd1 v29 H) fun v30 => bV (fNilchk (t0 E)) fun v32 => bV (fFad 0 v32) fun v33 => bV (fLd1 v33 H) fun v34 => bV (fNilchk v34) fun v35 => bV (fFad 6 v35) fun v36 => bV (fLd1 v36 H) fun v37 => bV (fFad 0 (t5 E)) fun v38 => bV (fLd1 v38 H) fun v39 => bV (oLk .s (.agg [(.str 0 0), (.str 0 0), (.str 0 0), (.str 0 0)]) false v37 v39 H) fun v40 => bV (fFld1 2 v40) fun v41 => bV (oLk .s (.agg [(.str 0 0), (.str 0 0), (.int .u8 (.ofNat 0)), (.str 0 0), (.str 0 0), (.str 0 0), (.int .u8 (.ofNat 0)), (.str 0 0), (.str 0 0), (.int .i64 (.ofNat 0)), (.int .i64 (.ofNat 0))]) false v30 v41 H) fun v42 => bM (fNew 67 [(.str 0 0), (.str 0 0), (.int .u8 (.ofNat 0)), (.str 0 0), (.str 0 0), (.str 0 0), (.int .u8 (.ofNat 0)), (.str 0 0), (.str 0 0), (.int .i64 (.ofNat 0)), (.int .i64 (.ofNat 0))] []) H fun v6 H => bE (fSt 11 v6 v42 H) H fun _ H => k (d6 E v6) H)
 (seqC (rg fun T E H k => bV (fFad 4 (t5 E)) fun v43 => bV (fLd1 v43 H) fun v44 => bV (fNot v44) fun v45 => gdH v45 true H (fun rest => bV (some (t3 E)) fun v47 => rest v47 H) fun v47 H => gdH v45 true H (fun rest => bV (fFad 2 (t6 E)) fun v48 => rest v48 H) fun v48 H => gdH v45 true H (fun rest => bV (fLd1 v48 H) fun v49 => rest v49 H) fun v49 H => gdH v45 true H (fun rest => bV (oLk .i .nilf false v47 v49 H) fun v50 => rest v50 H) fun v50 H => gdH v45 true H (fun rest => bV (some (t0 E)) fun v51 => rest v51 H) fun v51 H => gdH v45 true H (fun rest => bV (some (t4 E)) fun v52 => rest v52 H) fun v52 H => gdH v45 true H (fun rest => bV (fLdN 11 (t6 E) H) fun v53 => rest v53 H) fun v53 H => gdH v45 true H (fun rest => onFnV [v50, v51, v52, v53] fun f l => T f l H fun v54 H => rest v54 H) fun v54 H => bV (fPick v45 v54 (.bool false)) fun v55 => k (d55 E v55) H)
 (condF t55
 (exitC 1)
 skipC)))))
 (rg fun T E H k => bV (fAdd (t19 E) (.int .i64 (.ofNat 1))) fun v56 => k (d19 E v56) H)))))))
 (seqC (rg fun T E H k => k (d2 E (.int .i64 (.ofNat 0))) H)
 retC))))))
 (seqC (rg fun T E H k => k (d2 E (.int .i64 (.ofNat 3))) H)
 retC)))))) [fun E _ => some (t2 E)]
def pl72 : Nat × List (Nat × Plan) := (108086391054917504, [(6, ⟨[0, 1, 2, 3, 4, 5, 6, 7, 8, 9, 10, 11, 12, 13, 14, 15, 16, 17, 18, 19, 20], [0, 1, 3, 7, 15, 31, 63, 0, 128, 384, 896, 1920, 3968, 8064, 0, 16384, 65408, 130944, 262143, 0, 1048575]⟩)])
noncomputable def c73 : TT → FnC := fnC 4 ((seqC (rg fun T E H k => k (d10 (d9 (d8 E .nils) (.int .i64 (.ofNat 0))) (.int .i64 (.ofNat 0))) H)
 (seqC (rg fun T E H k => bV (fNilchk (t0 E)) fun v22 => bV (fFad 2 v22) fun v23 => bV (fLd1 v23 H) fun v24 => bV (fNilchk (t0 E)) fun v27 => bV (fFad 3 v27) fun v28 => bV (fLd1 v28 H) fun v29 => T 126 [v24] H fun v25 H => agn (fLd1 v28 H) v29 <| bE (fApp 130 5 56 v25 v29 H) H fun v30 H => k (d11 E v30) H)
 (seqC (rg fun T E H k => T 127 [(t11 E), (.fn (.func 128) [] [])] H fun v32 H => k E H)
 (seqC (rg fun T E H k => k (d12 E .nils) H)
 (seqC (rg fun T E H k => bM (aMap []) H fun v33 H => k (d13 E v33) H)
 (seqC (seqC (rg fun T E H k => bV (fLenV (t11 E)) fun v35 => k (d36 (d35 (d34 E (t11 E)) v35) (.int .i64 (.ofNat 0))) H)
 (blockC 0 (loopC (seqC (rg fun T E H k => bV (fLss (t36 E) (t35 E)) fun v37 => k (d37 E v37) H)
 (seqC (condF t37
 skipC
 (exitC 0))
 (seqC (blockC 1 (seqC (rg fun T E H k => bV (fIaS 5 (t34 E) (t36 E)) fun v38 => bV (fLdN 5 v38 H) fun v39 => bM (fNew 130 [(.str 0 0), (.int .i64 (.ofNat 0)), (.int .i64 (.ofNat 0)), (.str 0 0), (.bool false)] []) H fun v15 H => bE (fSt 5 v15 v39 H) H fun _ H => k (d15 E v15) H)
 (rg fun T E H k => bV (fFad 2 (t15 E)) fun v41 => bV (fLd1 v41 H) fun v42 => bV (fFad 2 (t15 E)) fun v43 => bV (fLd1 v43 H) fun v44 => bV (fGtr v44 (.int .i64 (.ofNat 0))) fun v45 => bE (oMu .i (t13 E) v42 v45 H) H fun _ H => k E H)))
 (rg fun T E H k => bV (fAdd (t36 E) (.int .i64 (.ofNat 1))) fun v46 => k (d36 E v46) H)))))))
 (seqC (seqC (rg fun T E H k => bV (fLenV (t1 E)) fun v48 => k (d49 (d48 (d47 E (t1 E)) v48) (.int .i64 (.ofNat 0))) H)
 (blockC 2 (loopC (seqC (rg fun T E H k => bV (fLss (t49 E) (t48 E)) fun v50 => k (d50 E v50) H)
 (seqC (condF t50
 skipC
 (exitC 2))
 (seqC (blockC 3 (seqC (rg fun T E H k => bV (fIaS 9 (t47 E) (t49 E)) fun v51 => bV (fLdN 9 v51 H) fun v52 => bM (fNew 51 [(.int .i64 (.ofNat 0)), (.str 0 0), (.str 0 0), (.int .i64 (.ofNat 0)), (.int .i64 (.ofNat 0)), (.str 0 0), (.int .i64 (.ofNat 0)), (.int .u8 (.ofNat 0)), (.int .i64 (.ofNat 0))] []) H fun v17 H => bE (fSt 9 v17 v52 H) H fun _ H => k (d17 E v17) H)
 (seqC (rg fun T E H k => bV (fFad 1 (t17 E)) fun v53 => bV (fLd1 v53 H) fun v54 => bV (fNeq true .s v54 (.str 0 0)) fun v55 => gdH v55 false H (fun rest => bV (some (t13 E)) fun v57 => rest v57 H) fun v57 H => gdH v55 false H (fun rest => bV (fFad 0 (t17 E)) fun v58 => rest v58 H) fun v58 H => gdH v55 false H (fun rest => bV (fLd1 v58 H) fun v59 => rest v59 H) fun v59 H => gdH v55 false H (fun rest => bV (oLk .i (.bool false) false v57 v59 H) fun v60 => rest v60 H) fun v60 H => bV (fPick v55 (.bool true) v60) fun v61 => k (d61 E v61) H)
 (condF t61
 (rg fun T E H k => bV (fLdN 9 (t17 E) H) fun v63 => bM (fSlice 51 1 [(.int .i64 (.ofNat 0)), (.str 0 0), (.str 0 0), (.int .i64 (.ofNat 0)), (.int .i64 (.ofNat 0)), (.str 0 0), (.int .i64 (.ofNat 0)), (.int .u8 (.ofNat 0)), (.int .i64 (.ofNat 0))] [(0, 9)] [v63]) H fun v64 H => bE (fApp 51 9 96 (t12 E) v64 H) H fun v65 H => k (d12 E v65) H)
 skipC))))
 (rg fun T E H k => bV (fAdd (t49 E) (.int .i64 (.ofNat 1))) fun v66 => k (d49 E v66) H)))))))
 (seqC (seqC (rg fun T E H k => bV (fLenV (t11 E)) fun v68 => k (d69 (d68 (d67 E (t11 E)) v68) (.int .i64 (.ofNat 0))) H)
 (blockC 4 (loopC (seqC (rg fun T E H k => bV (fLss (t69 E) (t68 E)) fun v70 => k (d70 E v70) H)
 (seqC (condF t70
 skipC
 (exitC 4))
 (seqC (blockC 5 (seqC (rg fun T E H k => bV (fIaS 5 (t67 E) (t69 E)) fun v71 => bV (fLdN 5 v71 H) fun v72 => bM (fNew 130 [(.str 0 0), (.int .i64 (.ofNat 0)), (.int .i64 (.ofNat 0)), (.str 0 0), (.bool false)] []) H fun v19 H => bE (fSt 5 v19 v72 H) H fun _ H => k (d19 E v19) H)
 (seqC (seqC (rg fun T E H k => bV (fFad 2 (t19 E)) fun v73 => bV (fLd1 v73 H) fun v74 => bV (fGtr v74 (.int .i64 (.ofNat 0))) fun v75 => k (d75 E v75) H)
 (condF t75
 (exitC 5)
 skipC))
 (seqC (seqC (rg fun T E H k => bV (fEql true .i (t2 E) (.int .i64 (.ofNat 2147483647))) fun v77 => k (d77 E v77) H)
 (condF t77
 (seqC (rg fun T E H k => k (d10 (d9 (d8 E .nils) (.int .i64 (.ofNat 0))) (.int .i64 (.ofNat 3))) H)
 retC)
 skipC))
 (seqC (rg fun T E H k => bV (fAdd (t2 E) (.int .i64 (.ofNat 1))) fun v79 => k (d2 E v79) H)
 (seqC (rg fun T E H k => bV (fFad 0 (t19 E)) fun v81 => bV (fLd1 v81 H) fun v82 => bV (fAgg [(.int .i64 (.ofNat 0)), (.str 0 0), (.str 0 0), (.int .i64 (.ofNat 0)), (.int .i64 (.ofNat 0)), (.str 0 0), (.int .i64 (.ofNat 0)), (.int .u8 (.ofNat 0)), (.int .i64 (.ofNat 0))] [(0, 1), (2, 1)] [(t2 E), v82]) fun v83 => bM (fNew 51 [(.int .i64 (.ofNat 0)), (.str 0 0), (.str 0 0), (.int .i64 (.ofNat 0)), (.int .i64 (.ofNat 0)), (.str 0 0), (.int .i64 (.ofNat 0)), (.int .u8 (.ofNat 0)), (.int .i64 (.ofNat 0))] []) H fun v20 H => bE (fSt 9 v20 v83 H) H fun _ H => k (d20 E v20) H)
 (seqC (blockC 6 (seqC (rg fun T E H k => bV (fFad 3 (t19 E)) fun v85 => bV (fLd1 v85 H) fun v86 => bV (fNeq true .s v86 (.str 0 0)) fun v87 => k (d84 E v87) H)
 (condF t84
 (rg fun T E H k => bV (fFad 3 (t19 E)) fun v89 => bV (fLd1 v89 H) fun v90 => bV (fNilchk (t0 E)) fun v93 => bV (fFad 0 v93) fun v94 => bV (fLd1 v94 H) fun v95 => bV (fNilchk v95) fun v96 => bV (fFad 5 v96) fun v97 => bV (fLd1 v97 H) fun v98 => bV (fFad 3 (t19 E)) fun v99 => bV (fLd1 v99 H) fun v100 => bV (oLk .s (.agg [(.str 0 0), (.str 0 0), (.int .u8 (.ofNat 0)), (.str 0 0), (.str 0 0), (.str 0 0), (.int .u8 (.ofNat 0)), (.str 0 0), (.str 0 0), (.int .i64 (.ofNat 0)), (.int .i64 (.ofNat 0))]) false v98 v100 H) fun v101 => bV (fFld1 10 v101) fun v102 => bV (fAgg [(.int .i64 (.ofNat 0)), (.str 0 0), (.str 0 0), (.int .i64 (.ofNat 0)), (.int .i64 (.ofNat 0)), (.str 0 0), (.int .i64 (.ofNat 0)), (.int .u8 (.ofNat 0)), (.int .i64 (.ofNat 0))] [(0, 1), (1, 1), (3, 1), (4, 1)] [(t2 E), v90, (t3 E), v102]) fun v103 => bE (fSt 9 (t20 E) v103 H) H fun _ H => k E H)
 (seqC (rg fun T E H k => bV (fFad 4 (t19 E)) fun v105 => bV (fLd1 v105 H) fun v106 => k (d104 E v106) H)
 (condF t104
 (rg fun T E H k => bV (fFad 7 (t20 E)) fun v107 => bE (fSt 1 v107 (.int .u8 (.ofNat 1)) H) H fun _ H => bV (fFad 8 (t20 E)) fun v108 => bE (fSt 1 v108 (.int .i64 (.ofNat 91)) H) H fun _ H => k E H)
 skipC)))))
 (rg fun T E H k => bV (fLdN 9 (t20 E) H) fun v110 => bM (fSlice 51 1 [(.int .i64 (.ofNat 0)), (.str 0 0), (.str 0 0), (.int .i64 (.ofNat 0)), (.int .i64 (.ofNat 0)), (.str 0 0), (.int .i64 (.ofNat 0)), (.int .u8 (.ofNat 0)), (.int .i64 (.ofNat 0))] [(0, 9)] [v110]) H fun v111 H => bE (fApp 51 9 96 (t12 E) v111 H) H fun v112 H => k (d12 E v112) H))))))))
 (rg fun T E H k => bV (fAdd (t69 E) (.int .i64 (.ofNat 1))) fun v113 => k (d69 E v113) H)))))))
 (seqC (rg fun T E H k => k (d10 (d9 (d8 E (t12 E)) (t2 E)) (.int .i64 (.ofNat 0))) H)
 retC)))))))))) [fun E _ => some (t8 E), fun E _ => some (t9 E), fun E _ => some (t10 E)]
def pl73 : Nat × List (Nat × Plan) := (83056467307419666695671967027036160, [(1, ⟨[0, 1, 2, 3, 5, 6, 7, 8, 4, 9, 10], [0, 1, 3, 7, 15, 0, 32, 96, 224, 511, 1023]⟩), (25, ⟨[0, 1, 2, 3, 4, 5, 6, 7, 8, 9, 10, 11, 12, 13, 14, 15, 16], [0, 0, 2, 0, 0, 16, 48, 112, 240, 496, 1008, 0, 2048, 8176, 16368, 32767, 65535]⟩)])
noncomputable def c74 : TT → FnC := fnC 2 ((seqC (rg fun T E H k => k (d4 E (.bool false)) H)
 (seqC (rg fun T E H k => T 130 [(t0 E), (t1 E)] H fun v7 H => bV (fGeq v7 (.int .i64 (.ofNat 0))) fun v8 => k (d4 E v8) H)
 retC))) [fun E _ => some (t4 E)]
def pl74 : Nat × List (Nat × Plan) := (480, [])
noncomputable def c75 : TT → FnC := fnC 2 ((seqC (rg fun T E H k => bM (fBox 31 5 (t0 E)) H fun v2 H => k (d5 (d4 (d2 E v2) (.str 0 0)) (.bool false)) H)
 (seqC (seqC (rg fun T E H k => bV (fLdN 5 (t2 E) H) fun v13 => T 131 [v13, (t1 E)] H fun v15 H => bV (fExt 0 v15) fun v16 => bV (fExt 1 v15) fun v17 => bM (fNew 67 [(.str 0 0), (.str 0 0), (.int .u8 (.ofNat 0)), (.str 0 0), (.str 0 0), (.str 0 0), (.int .u8 (.ofNat 0)), (.str 0 0), (.str 0 0), (.int .i64 (.ofNat 0)), (.int .i64 (.ofNat 0))] []) H fun v6 H => bE (fSt 11 v6 v16 H) H fun _ H => k (d7 (d6 E v6) v17) H)
 (seqC (rg fun T E H k => bV (fNot (t7 E)) fun v19 => gdH v19 false H (fun rest => bV (fFad 2 (t6 E)) fun v21 => rest v21 H) fun v21 H => gdH v19 false H (fun rest => bV (fLd1 v21 H) fun v22 => rest v22 H) fun v22 H => gdH v19 false H (fun rest => bV (fNeq true .i v22 (.int .u8 (.ofNat 8))) fun v23 => rest v23 H) fun v23 H => bV (fPick v19 (.bool true) v23) fun v24 => k (d24 E v24) H)
 (condF t24
 (seqC (rg fun T E H k => k (d5 (d4 E (.str 0 0)) (.bool false)) H)
 retC)
 skipC)))
 (seqC (seqC (rg fun T E H k => bV (fFad 4 (t2 E)) fun v25 => bV (fLd1 v25 H) fun v26 => bV (fLenV v26) fun v27 => k (d28 (d27 (d26 E v26) v27) (.int .i64 (.ofNat 0))) H)
 (blockC 0 (loopC (seqC (rg fun T E H k => bV (fLss (t28 E) (t27 E)) fun v29 => k (d29 E v29) H)
 (seqC (condF t29
 skipC
 (exitC 0))
 (seqC (blockC 1 (seqC (rg fun T E H k => bV (fIaS 4 (t26 E) (t28 E)) fun v30 => bV (fLdN 4 v30 H) fun v31 => bM (fNew 70 [(.str 0 0), (.str 0 0), (.str 0 0), (.str 0 0)] []) H fun v9 H => bE (fSt 4 v9 v31 H) H fun _ H => k (d9 E v9) H)
 (seqC (rg fun T E H k => bV (fLdN 5 (t2 E) H) fun v33 => bV (fFad 1 (t9 E)) fun v34 => bV (fLd1 v34 H) fun v35 => T 131 [v33, v35] H fun v36 H => bV (fExt 0 v36) fun v37 => bV (fExt 1 v36) fun v38 => bM (fNew 67 [(.str 0 0), (.str 0 0), (.int .u8 (.ofNat 0)), (.str 0 0), (.str 0 0), (.str 0 0), (.int .u8 (.ofNat 0)), (.str 0 0), (.str 0 0), (.int .i64 (.ofNat 0)), (.int .i64 (.ofNat 0))] []) H fun v10 H => bE (fSt 11 v10 v37 H) H fun _ H => k (d11 (d10 E v10) v38) H)
 (seqC (rg fun T E H k => gdH (t11 E) true H (fun rest => bV (fFad 2 (t9 E)) fun v41 => rest v41 H) fun v41 H => gdH (t11 E) true H (fun rest => bV (fLd1 v41 H) fun v42 => rest v42 H) fun v42 H => gdH (t11 E) true H (fun rest => bV (some (t1 E)) fun v43 => rest v43 H) fun v43 H => gdH (t11 E) true H (fun rest => bV (fEql false .s v42 v43) fun v44 => rest v44 H) fun v44 H => bV (fPick (t11 E) v44 (.bool false)) fun v45 => gdH v45 true H (fun rest => bV (fFad 2 (t10 E)) fun v47 => rest v47 H) fun v47 H => gdH v45 true H (fun rest => bV (fLd1 v47 H) fun v48 => rest v48 H) fun v48 H => gdH v45 true H (fun rest => bV (fEql true .i v48 (.int .u8 (.ofNat 7))) fun v49 => rest v49 H) fun v49 H => bV (fPick v45 v49 (.bool false)) fun v50 => k (d50 E v50) H)
 (condF t50
 (seqC (rg fun T E H k => bV (fFad 0 (t10 E)) fun v51 => bV (fLd1 v51 H) fun v52 => k (d5 (d4 E v52) (.bool true)) H)
 retC)
 skipC)))))
 (rg fun T E H k => bV (fAdd (t28 E) (.int .i64 (.ofNat 1))) fun v53 => k (d28 E v53) H)))))))
 (seqC (rg fun T E H k => k (d5 (d4 E (.str 0 0)) (.bool false)) H)
 retC))))) [fun E _ => some (t4 E), fun E _ => some (t5 E)]
def pl75 : Nat × List (Nat × Plan) := (16888497579225088, [])
noncomputable def c76 : TT → FnC := fnC 2 ((seqC (rg fun T E H k => bM (fBox 31 5 (t0 E)) H fun v2 H => k (d4 (d2 E v2) .nils) H)
 (seqC (rg fun T E H k => bV (fLdN 5 (t2 E) H) fun v5 => T 44 [v5] H fun v6 H => T 108 [v6, (t1 E)] H fun v8 H => k (d4 E v8) H)
 retC))) [fun E _ => some (t4 E)]
def pl76 : Nat × List (Nat × Plan) := (480, [])
noncomputable def c77 : TT → FnC := fnC 2 ((seqC (rg fun T E H k => bM (fBox 31 5 (t0 E)) H fun v2 H => k (d4 (d2 E v2) .nils) H)
 (seqC (rg fun T E H k => k (d5 E .nils) H)
 (seqC (seqC (rg fun T E H k => bV (fFad 3 (t2 E)) fun v8 => bV (fLd1 v8 H) fun v9 => bV (fLenV v9) fun v10 => k (d11 (d10 (d9 E v9) v10) (.int .i64 (.ofNat 0))) H)
 (blockC 0 (loopC (seqC (rg fun T E H k => bV (fLss (t11 E) (t10 E)) fun v12 => k (d12 E v12) H)
 (seqC (condF t12
 skipC
 (exitC 0))
 (seqC (blockC 1 (seqC (rg fun T E H k => bV (fIaS 11 (t9 E) (t11 E)) fun v13 => bV (fLdN 11 v13 H) fun v14 => bM (fNew 67 [(.str 0 0), (.str 0 0), (.int .u8 (.ofNat 0)), (.str 0 0), (.str 0 0), (.str 0 0), (.int .u8 (.ofNat 0)), (.str 0 0), (.str 0 0), (.int .i64 (.ofNat 0)), (.int .i64 (.ofNat 0))] []) H fun v7 H => bE (fSt 11 v7 v14 H) H fun _ H => k (d7 E v7) H)
 (seqC (rg fun T E H k => bV (fFad 2 (t7 E)) fun v15 => bV (fLd1 v15 H) fun v16 => bV (fEql true .i v16 (.int .u8 (.ofNat 9))) fun v17 => gdH v17 true H (fun rest => bV (fFad 5 (t7 E)) fun v19 => rest v19 H) fun v19 H => gdH v17 true H (fun rest => bV (fLd1 v19 H) fun v20 => rest v20 H) fun v20 H => gdH v17 true H (fun rest => bV (some (t1 E)) fun v21 => rest v21 H) fun v21 H => gdH v17 true H (fun rest => bV (fEql false .s v20 v21) fun v22 => rest v22 H) fun v22 H => bV (fPick v17 v22 (.bool false)) fun v23 => k (d23 E v23) H)
 (condF t23
 (rg fun T E H k => bV (fFad 0 (t7 E)) fun v25 => bV (fLd1 v25 H) fun v26 => bM (fSlice 9 1 [(.str 0 0)] [(0, 1)] [v26]) H fun v27 H => bE (fApp 9 1 16 (t5 E) v27 H) H fun v28 H => k (d5 E v28) H)
 skipC))))
 (rg fun T E H k => bV (fAdd (t11 E) (.int .i64 (.ofNat 1))) fun v29 => k (d11 E v29) H)))))))
 (seqC (rg fun T E H k => k (d4 E (t5 E)) H)
 retC))))) [fun E _ => some (t4 E)]
def pl77 : Nat × List (Nat × Plan) := (2139087104, [])
noncomputable def c78 : TT → FnC := fnC 2 ((seqC (rg fun T E H k => bM (fBox 9 1 (t1 E)) H fun v3 H => bM (fNew 43 [(.int .u8 (.ofNat 0)), (.int .i64 (.ofNat 0)), (.bool false), (.str 0 0)] []) H fun v4 H => k (d5 (d4 (d3 E v3) v4) (.bool false)) H)
 (seqC (rg fun T E H k => bV (oFn (.func 133) 0 [(t3 E)]) fun v8 => T 132 [(t0 E), v8] H fun v9 H => k (d6 E v9) H)
 (seqC (seqC (rg fun T E H k => bV (fLss (t6 E) (.int .i64 (.ofNat 0))) fun v11 => k (d11 E v11) H)
 (condF t11
 (seqC (rg fun T E H k => bV (fAgg [(.int .u8 (.ofNat 0)), (.int .i64 (.ofNat 0)), (.bool false), (.str 0 0)] [] []) fun v12 => bE (fSt 4 (t4 E) v12 H) H fun _ H => k (d5 E (.bool false)) H)
 retC)
 skipC))
 (seqC (rg fun T E H k => bV (fIaS 5 (t0 E) (t6 E)) fun v15 => bV (fFad 1 v15) fun v16 => bV (fLdN 4 v16 H) fun v17 => bE (fSt 4 (t4 E) v17 H) H fun _ H => k (d5 E (.bool true)) H)
 retC))))) [fun E H => onPtr (t4 E) fun id off => onOpt (loadN H id off 4) fun l => some (.agg l), fun E _ => some (t5 E)]
def pl78 : Nat × List (Nat × Plan) := (259968, [])
noncomputable def c79 : TT → FnC := fnC 1 ((seqC (rg fun T E H k => k (d2 E (.bool false)) H)
 (seqC (seqC (rg fun T E H k => bV (fLenS (t0 E)) fun v6 => bV (fEql true .i v6 (.int .i64 (.ofNat 0))) fun v7 => gdH v7 false H (fun rest => bV (some (t0 E)) fun v9 => rest v9 H) fun v9 H => gdH v7 false H (fun rest => bV (fLenS v9) fun v10 => rest v10 H) fun v10 H => gdH v7 false H (fun rest => bV (fGtr v10 (.int .i64 (.ofNat 32))) fun v11 => rest v11 H) fun v11 H => bV (fPick v7 (.bool true) v11) fun v12 => k (d12 E v12) H)
 (condF t12
 (seqC (rg fun T E H k => k (d2 E (.bool false)) H)
 retC)
 skipC))
 (seqC (rg fun T E H k => T 134 [] H fun v13 H => bM (fNew 176 [(.int .u8 (.ofNat 0)), (.int .u8 (.ofNat 0)), (.int .u8 (.ofNat 0)), (.int .u8 (.ofNat 0)), (.int .u8 (.ofNat 0)), (.int .u8 (.ofNat 0)), (.int .u8 (.ofNat 0)), (.int .u8 (.ofNat 0)), (.int .u8 (.ofNat 0)), (.int .u8 (.ofNat 0)), (.int .u8 (.ofNat 0)), (.int .u8 (.ofNat 0)), (.int .u8 (.ofNat 0)), (.int .u8 (.ofNat 0)), (.int .u8 (.ofNat 0)), (.int .u8 (.ofNat 0)), (.int .u8 (.ofNat 0)), (.int .u8 (.ofNat 0)), (.int .u8 (.ofNat 0)), (.int .u8 (.ofNat 0)), (.int .u8 (.ofNat 0)), (.int .u8 (.ofNat 0)), (.int .u8 (.ofNat 0)), (.int .u8 (.ofNat 0)), (.int .u8 (.ofNat 0)), (.int .u8 (.ofNat 0)), (.int .u8 (.ofNat 0)), (.int .u8 (.ofNat 0)), (.int .u8 (.ofNat 0)), (.int .u8 (.ofNat 0)), (.int .u8 (.ofNat 0)), (.int .u8 (.ofNat 0)), (.int .u8 (.ofNat 0)), (.int .u8 (.ofNat 0)), (.int .u8 (.ofNat 0)), (.int .u8 (.ofNat 0)), (.int .u8 (.ofNat 0)), (.int .u8 (.ofNat 0)), (.int .u8 (.ofNat 0)), (.int .u8 (.ofNat 0)), (.int .u8 (.ofNat 0)), (.int .u8 (.ofNat 0)), (.int .u8 (.ofNat 0)), (.int .u8 (.ofNat 0)), (.int .u8 (.ofNat 0)), (.int .u8 (.ofNat 0)), (.int .u8 (.ofNat 0)), (.int .u8 (.ofNat 0)), (.int .u8 (.ofNat 0)), (.int .u8 (.ofNat 0)), (.int .u8 (.ofNat 0)), (.int .u8 (.ofNat 0)), (.int .u8 (.ofNat 0)), (.int .u8 (.ofNat 0)), (.int .u8 (.ofNat 0)), (.int .u8 (.ofNat 0)), (.int .u8 (.ofNat 0)), (.int .u8 (.ofNat 0)), (.int .u8 (.ofNat 0)), (.int .u8 (.ofNat 0)), (.int .u8 (.ofNat 0)), (.int .u8 (.ofNat 0)), (.int .u8 (.ofNat 0)), (.int .u8 (.ofNat 0)), (.int .u8 (.ofNat 0)), (.int .u8 (.ofNat 0)), (.int .u8 (.ofNat 0)), (.int .u8 (.ofNat 0)), (.int .u8 (.ofNat 0)), (.int .u8 (.ofNat 0)), (.int .u8 (.ofNat 0)), (.int .u8 (.ofNat 0)), (.int .u8 (.ofNat 0)), (.int .u8 (.ofNat 0)), (.int .u8 (.ofNat 0)), (.int .u8 (.ofNat 0)), (.int .u8 (.ofNat 0)), (.int .u8 (.ofNat 0)), (.int .u8 (.ofNat 0)), (.int .u8 (.ofNat 0)), (.int .u8 (.ofNat 0)), (.int .u8 (.ofNat 0)), (.int .u8 (.ofNat 0)), (.int .u8 (.ofNat 0)), (.int .u8 (.ofNat 0)), (.int .u8 (.ofNat 0)), (.int .u8 (.ofNat 0)), (.int .u8 (.ofNat 0)), (.int .u8 (.ofNat 0)), (.int .u8 (.ofNat 0)), (.int .u8 (.ofNat 0)), (.int .u8 (.ofNat 0)), (.int .u8 (.ofNat 0)), (.int .u8 (.ofNat 0)), (.int .u8 (.ofNat 0)), (.int .u8 (.ofNat 0)), (.int .u8 (.ofNat 0)), (.int .u8 (.ofNat 0)), (.int .u8 (.ofNat 0)), (.int .u8 (.ofNat 0)), (.int .u8 (.ofNat 0)), (.int .u8 (.ofNat 0)), (.int .u8 (.ofNat 0)), (.int .u8 (.ofNat 0)), (.int .u8 (.ofNat 0)), (.int .u8 (.ofNat 0)), (.int .u8 (.ofNat 0)), (.int .u8 (.ofNat 0)), (.int .u8 (.ofNat 0)), (.int .u8 (.ofNat 0)), (.int .u8 (.ofNat 0)), (.int .u8 (.ofNat 0)), (.int .u8 (.ofNat 0)), (.int .u8 (.ofNat 0)), (.int .u8 (.ofNat 0)), (.int .u8 (.ofNat 0)), (.int .u8 (.ofNat 0)), (.int .u8 (.ofNat 0)), (.int .u8 (.ofNat 0)), (.int .u8 (.ofNat 0)), (.int .u8 (.ofNat 0)), (.int .u8 (.ofNat 0)), (.int .u8 (.ofNat 0)), (.int .u8 (.ofNat 0)), (.int .u8 (.ofNat 0)), (.int .u8 (.ofNat 0)), (.int .u8 (.ofNat 0)), (.int .u8 (.ofNat 0)), (.int .u8 (.ofNat 0)), (.int .u8 (.ofNat 0)), (.int .u8 (.ofNat 0)), (.int .u8 (.ofNat 0)), (.int .u8 (.ofNat 0)), (.int .u8 (.ofNat 0)), (.int .u8 (.ofNat 0)), (.int .u8 (.ofNat 0)), (.int .u8 (.ofNat 0)), (.int .u8 (.ofNat 0)), (.int .u8 (.ofNat 0)), (.int .u8 (.ofNat 0)), (.int .u8 (.ofNat 0)), (.int .u8 (.ofNat 0)), (.int .u8 (.ofNat 0)), (.int .u8 (.ofNat 0)), (.int .u8 (.ofNat 0)), (.int .u8 (.ofNat 0)), (.int .u8 (.ofNat 0)), (.int .u8 (.ofNat 0)), (.int .u8 (.ofNat 0)), (.int .u8 (.ofNat 0)), (.int .u8 (.ofNat 0)), (.int .u8 (.ofNat 0)), (.int .u8 (.ofNat 0)), (.int .u8 (.ofNat 0)), (.int .u8 (.ofNat 0)), (.int .u8 (.ofNat 0)), (.int .u8 (.ofNat 0)), (.int .u8 (.ofNat 0)), (.int .u8 (.ofNat 0)), (.int .u8 (.ofNat 0)), (.int .u8 (.ofNat 0)), (.int .u8 (.ofNat 0)), (.int .u8 (.ofNat 0)), (.int .u8 (.ofNat 0)), (.int .u8 (.ofNat 0)), (.int .u8 (.ofNat 0)), (.int .u8 (.ofNat 0)), (.int .u8 (.ofNat 0)), (.int .u8 (.ofNat 0)), (.int .u8 (.ofNat 0)), (.int .u8 (.ofNat 0)), (.int .u8 (.ofNat 0)), (.int .u8 (.ofNat 0)), (.int .u8 (.ofNat 0)), (.int .u8 (.ofNat 0)), (.int .u8 (.ofNat 0)), (.int .u8 (.ofNat 0)), (.int .u8 (.ofNat 0)), (.int .u8 (.ofNat 0)), (.int .u8 (.ofNat 0)), (.int .u8 (.ofNat 0)), (.int .u8 (.ofNat 0)), (.int .u8 (.ofNat 0)), (.int .u8 (.ofNat 0)), (.int .u8 (.ofNat 0)), (.int .u8 (.ofNat 0)), (.int .u8 (.ofNat 0)), (.int .u8 (.ofNat 0)), (.int .u8 (.ofNat 0)), (.int .u8 (.ofNat 0)), (.int .u8 (.ofNat 0)), (.int .u8 (.ofNat 0)), (.int .u8 (.ofNat 0)), (.int .u8 (.ofNat 0)), (.int .u8 (.ofNat 0)), (.int .u8 (.ofNat 0)), (.int .u8 (.ofNat 0)), (.int .u8 (.ofNat 0)), (.int .u8 (.ofNat 0)), (.int .u8 (.ofNat 0)), (.int .u8 (.ofNat 0)), (.int .u8 (.ofNat 0)), (.int .u8 (.ofNat 0)), (.int .u8 (.ofNat 0)), (.int .u8 (.ofNat 0)), (.int .u8 (.ofNat 0)), (.int .u8 (.ofNat 0)), (.int .u8 (.ofNat 0)), (.int .u8 (.ofNat 0)), (.int .u8 (.ofNat 0)), (.int .u8 (.ofNat 0)), (.int .u8 (.ofNat 0)), (.int .u8 (.ofNat 0)), (.int .u8 (.ofNat 0)), (.int .u8 (.ofNat 0)), (.int .u8 (.ofNat 0)), (.int .u8 (.ofNat 0)), (.int .u8 (.ofNat 0)), (.int .u8 (.ofNat 0)), (.int .u8 (.ofNat 0)), (.int .u8 (.ofNat 0)), (.int .u8 (.ofNat 0)), (.int .u8 (.ofNat 0)), (.int .u8 (.ofNat 0)), (.int .u8 (.ofNat 0)), (.int .u8 (.ofNat 0)), (.int .u8 (.ofNat 0)), (.int .u8 (.ofNat 0)), (.int .u8 (.ofNat 0)), (.int .u8 (.ofNat 0)), (.int .u8 (.ofNat 0)), (.int .u8 (.ofNat 0)), (.int .u8 (.ofNat 0)), (.int .u8 (.ofNat 0)), (.int .u8 (.ofNat 0)), (.int .u8 (.ofNat 0)), (.int .u8 (.ofNat 0)), (.int .u8 (.ofNat 0)), (.int .u8 (.ofNat 0)), (.int .u8 (.ofNat 0)), (.int .u8 (.ofNat 0)), (.int .u8 (.ofNat 0)), (.int .u8 (.ofNat 0)), (.int .u8 (.ofNat 0)), (.int .u8 (.ofNat 0)), (.int .u8 (.ofNat 0)), (.int .u8 (.ofNat 0)), (.int .u8 (.ofNat 0)), (.int .u8 (.ofNat 0)), (.int .u8 (.ofNat 0)), (.int .u8 (.ofNat 0)), (.int .u8 (.ofNat 0)), (.int .u8 (.ofNat 0)), (.int .u8 (.ofNat 0)), (.int .u8 (.ofNat 0)), (.int .u8 (.ofNat 0))] []) H fun v3 H => bE (fSt 256 v3 v13 H) H fun _ H => k (d3 E v3) H)
 (seqC (seqC (rg fun T E H k => bV (fLenS (t0 E)) fun v15 => k (d16 (d15 E v15) (.int .i64 (.ofNat 0))) H)
 (blockC 0 (loopC (seqC (rg fun T E H k => bV (fLss (t16 E) (t15 E)) fun v17 => k (d17 E v17) H)
 (seqC (condF t17
 skipC
 (exitC 0))
 (seqC (blockC 1 (seqC (rg fun T E H k => k (d4 E (t16 E)) H)
 (seqC (rg fun T E H k => bV (fIxS (t0 E) (t4 E)) fun v21 => bV (fIaA 256 1 (t3 E) v21) fun v22 => bV (fLd1 v22 H) fun v23 => bV (fEql true .i v23 (.int .u8 (.ofNat 0))) fun v24 => k (d24 E v24) H)
 (condF t24
 (seqC (rg fun T E H k => k (d2 E (.bool false)) H)
 retC)
 skipC))))
 (rg fun T E H k => bV (fAdd (t16 E) (.int .i64 (.ofNat 1))) fun v25 => k (d16 E v25) H)))))))
 (seqC (rg fun T E H k => bV (fIxS (t0 E) (.int .i64 (.ofNat 0))) fun v27 => bV (fIaA 256 1 (t3 E) v27) fun v28 => bV (fLd1 v28 H) fun v29 => bV (fEql true .i v29 (.int .u8 (.ofNat 2))) fun v30 => k (d2 E v30) H)
 retC)))))) [fun E _ => some (t2 E)]
def pl79 : Nat × List (Nat × Plan) := (2130472928, [])
noncomputable def c80 : TT → FnC := fnC 2 ((seqC (rg fun T E H k => k (d4 E (.int .i64 (.ofNat 0))) H)
 (seqC (seqC (rg fun T E H k => bV (fLenV (t0 E)) fun v7 => k (d8 (d7 E v7) (.int .i64 (.ofNat 0))) H)
 (blockC 0 (loopC (seqC (rg fun T E H k => bV (fLss (t8 E) (t7 E)) fun v9 => k (d9 E v9) H)
 (seqC (condF t9
 skipC
 (exitC 0))
 (seqC (blockC 1 (seqC (rg fun T E H k => k (d5 E (t8 E)) H)
 (seqC (rg fun T E H k => bV (fIaS 1 (t0 E) (t5 E)) fun v14 => bV (fLd1 v14 H) fun v15 => onFnV [(t1 E), v15] fun f l => T f l H fun v16 H => k (d16 E v16) H)
 (condF t16
 (seqC (rg fun T E H k => k (d4 E (t5 E)) H)
 retC)
 skipC))))
 (rg fun T E H k => bV (fAdd (t8 E) (.int .i64 (.ofNat 1))) fun v18 => k (d8 E v18) H)))))))
 (seqC (rg fun T E H k => k (d4 E (.int .i64 (.negSucc 0))) H)
 retC)))) [fun E _ => some (t4 E)]
def pl80 : Nat × List (Nat × Plan) := (457792, [])
noncomputable def c81 : TT → FnC := fnC 1 ((seqC (rg fun T E H k => k (d2 E (.bool false)) H)
 (seqC (rg fun T E H k => bV (fLenS (t0 E)) fun v4 => bV (fLeq v4 (.int .i64 (.ofNat 1024))) fun v5 => gdH v5 true H (fun rest => bV (some (t0 E)) fun v7 => rest v7 H) fun v7 H => gdH v5 true H (fun rest => T 124 [v7] H fun v8 H => rest v8 H) fun v8 H => bV (fPick v5 v8 (.bool false)) fun v9 => k (d2 E v9) H)
 retC))) [fun E _ => some (t2 E)]
def pl81 : Nat × List (Nat × Plan) := (1016, [])
noncomputable def c82 : TT → FnC := fnC 1 ((seqC (rg fun T E H k => k (d2 E .nilf) H)
 (seqC (rg fun T E H k => bM (aMap []) H fun v6 H => bM (fNew 89 [.nilm] []) H fun v3 H => bE (fSt 1 v3 v6 H) H fun _ H => k (d3 E v3) H)
 (seqC (seqC (rg fun T E H k => bV (fLenV (t0 E)) fun v8 => k (d9 (d8 (d7 E (t0 E)) v8) (.int .i64 (.ofNat 0))) H)
 (blockC 0 (loopC (seqC (rg fun T E H k => bV (fLss (t9 E) (t8 E)) fun v10 => k (d10 E v10) H)
 (seqC (condF t10
 skipC
 (exitC 0))
 (seqC (blockC 1 (seqC (rg fun T E H k => bV (fIaS 1 (t7 E) (t9 E)) fun v11 => bV (fLd1 v11 H) fun v12 => k (d5 E v12) H)
 (rg fun T E H k => bV (fLd1 (t3 E) H) fun v13 => bE (oMu .s v13 (t5 E) (.bool true) H) H fun _ H => k E H)))
 (rg fun T E H k => bV (fAdd (t9 E) (.int .i64 (.ofNat 1))) fun v15 => k (d9 E v15) H)))))))
 (seqC (rg fun T E H k => bV (oFn (.func 135) 0 [(t3 E)]) fun v16 => k (d2 E v16) H)
 retC))))) [fun E _ => some (t2 E)]
def pl82 : Nat × List (Nat × Plan) := (129088, [])
noncomputable def c83 : TT → FnC := fnC 3 ((seqC (rg fun T E H k => bM (fBox 147 1 (t2 E)) H fun v5 H => k (d7 (d6 (d5 E v5) (.str 0 0)) (.bool false)) H)
 (seqC (rg fun T E H k => bV (oFn (.func 136) 0 [(t5 E)]) fun v10 => T 132 [(t0 E), v10] H fun v11 H => k (d8 E v11) H)
 (seqC (seqC (rg fun T E H k => bV (fLss (t8 E) (.int .i64 (.ofNat 0))) fun v13 => k (d13 E v13) H)
 (condF t13
 (seqC (rg fun T E H k => k (d7 (d6 E (.str 0 0)) (.bool false)) H)
 retC)
 skipC))
 (seqC (rg fun T E H k => bV (fIaS 5 (t0 E) (t8 E)) fun v17 => bV (fLdN 5 v17 H) fun v18 => onFnV [(t1 E), v18] fun f l => T f l H fun v19 H => k (d7 (d6 E v19) (.bool true)) H)
 retC))))) [fun E _ => some (t6 E), fun E _ => some (t7 E)]
def pl83 : Nat × List (Nat × Plan) := (1039872, [])
noncomputable def c85 : TT → FnC := fnC 2 ((seqC (rg fun T E H k => bM (fBox 46 5 (t0 E)) H fun v2 H => k (d3 (d2 E v2) (.bool false)) H)
 (seqC (rg fun T E H k => bV (fLd1 (t1 E) H) fun v4 => bV (fFad 0 (t2 E)) fun v5 => bV (fLd1 v5 H) fun v6 => onFnV [v4, v6] fun f l => T f l H fun v7 H => gdH v7 true H (fun rest => bV (fFad 1 (t2 E)) fun v9 => rest v9 H) fun v9 H => gdH v7 true H (fun rest => bV (fLdN 4 v9 H) fun v10 => rest v10 H) fun v10 H => gdH v7 true H (fun rest => T 70 [v10] H fun v11 H => rest v11 H) fun v11 H => gdH v7 true H (fun rest => bV (fEql true .i v11 (.int .i64 (.ofNat 0))) fun v12 => rest v12 H) fun v12 H => bV (fPick v7 v12 (.bool false)) fun v13 => k (d3 E v13) H)
 retC))) [fun E _ => some (t3 E)]
def pl85 : Nat × List (Nat × Plan) := (16368, [])
noncomputable def c86 : TT → FnC := fnC 3 ((seqC (rg fun T E H k => bM (fBox 78 1 (t2 E)) H fun v5 H => k (d7 (d6 (d5 E v5) (.str 0 0)) (.bool false)) H)
 (seqC (rg fun T E H k => bV (oFn (.func 137) 0 [(t5 E)]) fun v10 => T 25 [(t0 E), v10] H fun v11 H => k (d8 E v11) H)
 (seqC (seqC (rg fun T E H k => bV (fLss (t8 E) (.int .i64 (.ofNat 0))) fun v13 => k (d13 E v13) H)
 (condF t13
 (seqC (rg fun T E H k => k (d7 (d6 E (.str 0 0)) (.bool false)) H)
 retC)
 skipC))
 (seqC (rg fun T E H k => bV (fIaS 11 (t0 E) (t8 E)) fun v17 => bV (fLdN 11 v17 H) fun v18 => onFnV [(t1 E), v18] fun f l => T f l H fun v19 H => k (d7 (d6 E v19) (.bool true)) H)
 retC))))) [fun E _ => some (t6 E), fun E _ => some (t7 E)]
def pl86 : Nat × List (Nat × Plan) := (1039872, [])
noncomputable def c88 : TT → FnC := fnC 2 ((seqC (rg fun T E H k => bM (fBox 67 11 (t0 E)) H fun v2 H => k (d3 (d2 E v2) (.bool false)) H)
 (seqC (rg fun T E H k => bV (fLd1 (t1 E) H) fun v4 => bV (fFad 0 (t2 E)) fun v5 => bV (fLd1 v5 H) fun v6 => onFnV [v4, v6] fun f l => T f l H fun v7 H => gdH v7 true H (fun rest => bV (fFad 1 (t2 E)) fun v9 => rest v9 H) fun v9 H => gdH v7 true H (fun rest => bV (fLd1 v9 H) fun v10 => rest v10 H) fun v10 H => gdH v7 true H (fun rest => T 81 [v10] H fun v11 H => rest v11 H) fun v11 H => bV (fPick v7 v11 (.bool false)) fun v12 => k (d3 E v12) H)
 retC))) [fun E _ => some (t3 E)]
def pl88 : Nat × List (Nat × Plan) := (8176, [])
noncomputable def c89 : TT → FnC := fnC 3 ((seqC (rg fun T E H k => bM (fBox 107 1 (t2 E)) H fun v5 H => k (d7 (d6 (d5 E v5) (.str 0 0)) (.bool false)) H)
 (seqC (rg fun T E H k => bV (oFn (.func 139) 0 [(t5 E)]) fun v10 => T 138 [(t0 E), v10] H fun v11 H => k (d8 E v11) H)
 (seqC (seqC (rg fun T E H k => bV (fLss (t8 E) (.int .i64 (.ofNat 0))) fun v13 => k (d13 E v13) H)
 (condF t13
 (seqC (rg fun T E H k => k (d7 (d6 E (.str 0 0)) (.bool false)) H)
 retC)
 skipC))
 (seqC (rg fun T E H k => bV (fIaS 4 (t0 E) (t8 E)) fun v17 => bV (fLdN 4 v17 H) fun v18 => onFnV [(t1 E), v18] fun f l => T f l H fun v19 H => k (d7 (d6 E v19) (.bool true)) H)
 retC))))) [fun E _ => some (t6 E), fun E _ => some (t7 E)]
def pl89 : Nat × List (Nat × Plan) := (1039872, [])
noncomputable def c91 : TT → FnC := fnC 2 ((seqC (rg fun T E H k => bM (fBox 70 4 (t0 E)) H fun v2 H => k (d3 (d2 E v2) (.bool false)) H)
 (seqC (rg fun T E H k => bV (fLd1 (t1 E) H) fun v4 => bV (fFad 0 (t2 E)) fun v5 => bV (fLd1 v5 H) fun v6 => onFnV [v4, v6] fun f l => T f l H fun v7 H => k (d3 E v7) H)
 retC))) [fun E _ => some (t3 E)]
def pl91 : Nat × List (Nat × Plan) := (240, [])
noncomputable def c92 : TT → FnC := fnC 2 ((seqC (rg fun T E H k => bM (fBox 67 11 (t0 E)) H fun v2 H => k (d3 (d2 E v2) (.bool false)) H)
 (seqC (rg fun T E H k => bV (fFad 3 (t2 E)) fun v7 => bV (fLd1 v7 H) fun v8 => k (d4 E v8) H)
 (seqC (seqC (rg fun T E H k => k (d5 E (.int .i64 (.ofNat 0))) H)
 (blockC 0 (loopC (seqC (seqC (rg fun T E H k => bV (fNeq true .s (t4 E) (.str 0 0)) fun v10 => k (d10 E v10) H)
 (condF t10
 skipC
 (exitC 0)))
 (seqC (blockC 1 (seqC (rg fun T E H k => bV (fLd1 (t1 E) H) fun v13 => bV (fNilchk v13) fun v14 => bV (fFad 5 v14) fun v15 => bV (fLd1 v15 H) fun v16 => bV (oLk .s (.agg [(.str 0 0), (.str 0 0), (.int .u8 (.ofNat 0)), (.str 0 0), (.str 0 0), (.str 0 0), (.int .u8 (.ofNat 0)), (.str 0 0), (.str 0 0), (.int .i64 (.ofNat 0)), (.int .i64 (.ofNat 0))]) false v16 (t4 E) H) fun v18 => bM (fNew 67 [(.str 0 0), (.str 0 0), (.int .u8 (.ofNat 0)), (.str 0 0), (.str 0 0), (.str 0 0), (.int .u8 (.ofNat 0)), (.str 0 0), (.str 0 0), (.int .i64 (.ofNat 0)), (.int .i64 (.ofNat 0))] []) H fun v6 H => bE (fSt 11 v6 v18 H) H fun _ H => k (d6 E v6) H)
 (seqC (seqC (rg fun T E H k => bV (fFad 2 (t6 E)) fun v19 => bV (fLd1 v19 H) fun v20 => bV (fNeq true .i v20 (.int .u8 (.ofNat 10))) fun v21 => gdH v21 false H (fun rest => bV (some (t5 E)) fun v23 => rest v23 H) fun v23 H => gdH v21 false H (fun rest => bV (fEql true .i v23 (.int .i64 (.ofNat 4))) fun v24 => rest v24 H) fun v24 H => bV (fPick v21 (.bool true) v24) fun v25 => k (d25 E v25) H)
 (condF t25
 (seqC (rg fun T E H k => k (d3 E (.bool false)) H)
 retC)
 skipC))
 (rg fun T E H k => bV (fFad 3 (t6 E)) fun v26 => bV (fLd1 v26 H) fun v27 => k (d4 E v27) H))))
 (rg fun T E H k => bV (fAdd (t5 E) (.int .i64 (.ofNat 1))) fun v12 => k (d5 E v12) H))))))
 (seqC (rg fun T E H k => bV (fLdN 11 (t2 E) H) fun v28 => T 93 [v28] H fun v29 H => k (d3 E v29) H)
 retC))))) [fun E _ => some (t3 E)]
def pl92 : Nat × List (Nat × Plan) := (1040186240, [])
noncomputable def c93 : TT → FnC := fnC 1 ((seqC (rg fun T E H k => bM (fBox 67 11 (t0 E)) H fun v1 H => k (d2 (d1 E v1) (.bool false)) H)
 (seqC (rg fun T E H k => bV (fLdN 11 (t1 E) H) fun v4 => bM (fNew 67 [(.str 0 0), (.str 0 0), (.int .u8 (.ofNat 0)), (.str 0 0), (.str 0 0), (.str 0 0), (.int .u8 (.ofNat 0)), (.str 0 0), (.str 0 0), (.int .i64 (.ofNat 0)), (.int .i64 (.ofNat 0))] []) H fun v3 H => bE (fSt 11 v3 v4 H) H fun _ H => k (d3 E v3) H)
 (seqC (rg fun T E H k => bV (fFad 0 (t3 E)) fun v5 => bE (fSt 1 v5 (.str 0 0) H) H fun _ H => bV (fFad 1 (t3 E)) fun v6 => bE (fSt 1 v6 (.str 0 0) H) H fun _ H => bV (fFad 3 (t3 E)) fun v7 => bE (fSt 1 v7 (.str 0 0) H) H fun _ H => k E H)
 (seqC (blockC 0 (seqC (rg fun T E H k => bV (fFad 2 (t1 E)) fun v9 => bV (fLd1 v9 H) fun v10 => bV (fLss v10 (.int .u8 (.ofNat 1))) fun v11 => gdH v11 false H (fun rest => bV (fFad 2 (t1 E)) fun v13 => rest v13 H) fun v13 H => gdH v11 false H (fun rest => bV (fLd1 v13 H) fun v14 => rest v14 H) fun v14 H => gdH v11 false H (fun rest => bV (fGtr v14 (.int .u8 (.ofNat 10))) fun v15 => rest v15 H) fun v15 H => bV (fPick v11 (.bool true) v15) fun v16 => k (d8 E v16) H)
 (condF t8
 (seqC (rg fun T E H k => k (d2 E (.bool false)) H)
 retC)
 (seqC (rg fun T E H k => bV (fFad 2 (t1 E)) fun v18 => bV (fLd1 v18 H) fun v19 => bV (fEql true .i v19 (.int .u8 (.ofNat 4))) fun v20 => k (d17 E v20) H)
 (condF t17
 (seqC (rg fun T E H k => bV (fFad 10 (t1 E)) fun v21 => bV (fLd1 v21 H) fun v22 => bV (fGeq v22 (.int .i64 (.ofNat 1))) fun v23 => gdH v23 true H (fun rest => bV (fFad 10 (t1 E)) fun v25 => rest v25 H) fun v25 H => gdH v23 true H (fun rest => bV (fLd1 v25 H) fun v26 => rest v26 H) fun v26 H => gdH v23 true H (fun rest => bV (fLeq v26 (.int .i64 (.ofNat 100))) fun v27 => rest v27 H) fun v27 H => bV (fPick v23 v27 (.bool false)) fun v28 => gdH v28 true H (fun rest => bV (fLdN 11 (t3 E) H) fun v30 => rest v30 H) fun v30 H => gdH v28 true H (fun rest => bV (fFad 2 (t1 E)) fun v31 => rest v31 H) fun v31 H => gdH v28 true H (fun rest => bV (fLd1 v31 H) fun v32 => rest v32 H) fun v32 H => gdH v28 true H (fun rest => bV (fFad 10 (t1 E)) fun v33 => rest v33 H) fun v33 H => gdH v28 true H (fun rest => bV (fLd1 v33 H) fun v34 => rest v34 H) fun v34 H => gdH v28 true H (fun rest => bV (fAgg [(.str 0 0), (.str 0 0), (.int .u8 (.ofNat 0)), (.str 0 0), (.str 0 0), (.str 0 0), (.int .u8 (.ofNat 0)), (.str 0 0), (.str 0 0), (.int .i64 (.ofNat 0)), (.int .i64 (.ofNat 0))] [(2, 1), (10, 1)] [v32, v34]) fun v35 => rest v35 H) fun v35 H => gdH v28 true H (fun rest => bV (fEql false (.agg [.s, .s, .i, .s, .s, .s, .i, .s, .s, .i, .i]) v30 v35) fun v36 => rest v36 H) fun v36 H => bV (fPick v28 v36 (.bool false)) fun v37 => k (d2 E v37) H)
 retC)
 (seqC (rg fun T E H k => bV (fFad 2 (t1 E)) fun v39 => bV (fLd1 v39 H) fun v40 => bV (fEql true .i v40 (.int .u8 (.ofNat 5))) fun v41 => k (d38 E v41) H)
 (condF t38
 (seqC (rg fun T E H k => bV (fLdN 11 (t3 E) H) fun v42 => bV (fFad 2 (t1 E)) fun v43 => bV (fLd1 v43 H) fun v44 => bV (fFad 4 (t1 E)) fun v45 => bV (fLd1 v45 H) fun v46 => bV (fAgg [(.str 0 0), (.str 0 0), (.int .u8 (.ofNat 0)), (.str 0 0), (.str 0 0), (.str 0 0), (.int .u8 (.ofNat 0)), (.str 0 0), (.str 0 0), (.int .i64 (.ofNat 0)), (.int .i64 (.ofNat 0))] [(2, 1), (4, 1)] [v44, v46]) fun v47 => bV (fEql false (.agg [.s, .s, .i, .s, .s, .s, .i, .s, .s, .i, .i]) v42 v47) fun v48 => k (d2 E v48) H)
 retC)
 (seqC (rg fun T E H k => bV (fFad 2 (t1 E)) fun v50 => bV (fLd1 v50 H) fun v51 => bV (fEql true .i v51 (.int .u8 (.ofNat 8))) fun v52 => gdH v52 false H (fun rest => bV (fFad 2 (t1 E)) fun v54 => rest v54 H) fun v54 H => gdH v52 false H (fun rest => bV (fLd1 v54 H) fun v55 => rest v55 H) fun v55 H => gdH v52 false H (fun rest => bV (fEql true .i v55 (.int .u8 (.ofNat 9))) fun v56 => rest v56 H) fun v56 H => bV (fPick v52 (.bool true) v56) fun v57 => k (d49 E v57) H)
 (condF t49
 (seqC (rg fun T E H k => bV (fLdN 11 (t1 E) H) fun v58 => T 140 [v58] H fun v59 H => gdH v59 true H (fun rest => bV (fFad 10 (t1 E)) fun v61 => rest v61 H) fun v61 H => gdH v59 true H (fun rest => bV (fLd1 v61 H) fun v62 => rest v62 H) fun v62 H => gdH v59 true H (fun rest => bV (fEql true .i v62 (.int .i64 (.ofNat 0))) fun v63 => rest v63 H) fun v63 H => bV (fPick v59 v63 (.bool false)) fun v64 => gdH v64 true H (fun rest => bV (fFad 4 (t1 E)) fun v66 => rest v66 H) fun v66 H => gdH v64 true H (fun rest => bV (fLd1 v66 H) fun v67 => rest v67 H) fun v67 H => gdH v64 true H (fun rest => bV (fEql true .s v67 (.str 0 0)) fun v68 => rest v68 H) fun v68 H => bV (fPick v64 v68 (.bool false)) fun v69 => gdH v69 true H (fun rest => bV (fFad 2 (t1 E)) fun v71 => rest v71 H) fun v71 H => gdH v69 true H (fun rest => bV (fLd1 v71 H) fun v72 => rest v72 H) fun v72 H => gdH v69 true H (fun rest => bV (fEql true .i v72 (.int .u8 (.ofNat 9))) fun v73 => rest v73 H) fun v73 H => gdH v69 true H (fun rest => bV (some v73) fun v74 => rest v74 H) fun v74 H => gdH v74 false H (fun rest => bV (fFad 5 (t1 E)) fun v75 => rest v75 H) fun v75 H => gdH v74 false H (fun rest => bV (fLd1 v75 H) fun v76 => rest v76 H) fun v76 H => gdH v74 false H (fun rest => bV (fEql true .s v76 (.str 0 0)) fun v77 => rest v77 H) fun v77 H => gdH v69 true H (fun rest => bV (fPick v74 (.bool true) v77) fun v78 => rest v78 H) fun v78 H => bV (fPick v69 v78 (.bool false)) fun v79 => k (d2 E v79) H)
 retC)
 skipC)))))))))
 (seqC (rg fun T E H k => bV (fLdN 11 (t3 E) H) fun v80 => bV (fFad 2 (t1 E)) fun v81 => bV (fLd1 v81 H) fun v82 => bV (fAgg [(.str 0 0), (.str 0 0), (.int .u8 (.ofNat 0)), (.str 0 0), (.str 0 0), (.str 0 0), (.int .u8 (.ofNat 0)), (.str 0 0), (.str 0 0), (.int .i64 (.ofNat 0)), (.int .i64 (.ofNat 0))] [(2, 1)] [v82]) fun v83 => bV (fEql false (.agg [.s, .s, .i, .s, .s, .s, .i, .s, .s, .i, .i]) v80 v83) fun v84 => k (d2 E v84) H)
 retC)))))) [fun E _ => some (t2 E)]
def pl93 : Nat × List (Nat × Plan) := (38685626227104908759138032, [])
noncomputable def c94 : TT → FnC := fnC 2 ((seqC (rg fun T E H k => bM (fBox 70 4 (t0 E)) H fun v2 H => k (d3 (d2 E v2) (.bool false)) H)
 (seqC (rg fun T E H k => bV (fLd1 (t1 E) H) fun v9 => bV (fNilchk v9) fun v10 => bV (fFad 5 v10) fun v11 => bV (fLd1 v11 H) fun v12 => bV (fFad 1 (t2 E)) fun v13 => bV (fLd1 v13 H) fun v14 => bV (oLk .s (.agg [(.str 0 0), (.str 0 0), (.int .u8 (.ofNat 0)), (.str 0 0), (.str 0 0), (.str 0 0), (.int .u8 (.ofNat 0)), (.str 0 0), (.str 0 0), (.int .i64 (.ofNat 0)), (.int .i64 (.ofNat 0))]) true v12 v14 H) fun v15 => bV (fExt 0 v15) fun v16 => bV (fExt 1 v15) fun v17 => bM (fNew 67 [(.str 0 0), (.str 0 0), (.int .u8 (.ofNat 0)), (.str 0 0), (.str 0 0), (.str 0 0), (.int .u8 (.ofNat 0)), (.str 0 0), (.str 0 0), (.int .i64 (.ofNat 0)), (.int .i64 (.ofNat 0))] []) H fun v4 H => bE (fSt 11 v4 v16 H) H fun _ H => k (d5 (d4 E v4) v17) H)
 (seqC (rg fun T E H k => bV (fLd1 (t1 E) H) fun v19 => bV (fNilchk v19) fun v20 => bV (fFad 5 v20) fun v21 => bV (fLd1 v21 H) fun v22 => bV (fFad 2 (t2 E)) fun v23 => bV (fLd1 v23 H) fun v24 => bV (oLk .s (.agg [(.str 0 0), (.str 0 0), (.int .u8 (.ofNat 0)), (.str 0 0), (.str 0 0), (.str 0 0), (.int .u8 (.ofNat 0)), (.str 0 0), (.str 0 0), (.int .i64 (.ofNat 0)), (.int .i64 (.ofNat 0))]) true v22 v24 H) fun v25 => bV (fExt 0 v25) fun v26 => bV (fExt 1 v25) fun v27 => bM (fNew 67 [(.str 0 0), (.str 0 0), (.int .u8 (.ofNat 0)), (.str 0 0), (.str 0 0), (.str 0 0), (.int .u8 (.ofNat 0)), (.str 0 0), (.str 0 0), (.int .i64 (.ofNat 0)), (.int .i64 (.ofNat 0))] []) H fun v6 H => bE (fSt 11 v6 v26 H) H fun _ H => k (d7 (d6 E v6) v27) H)
 (seqC (rg fun T E H k => gdH (t5 E) true H (fun rest => bV (some (t7 E)) fun v30 => rest v30 H) fun v30 H => bV (fPick (t5 E) v30 (.bool false)) fun v31 => gdH v31 true H (fun rest => bV (fFad 3 (t4 E)) fun v33 => rest v33 H) fun v33 H => gdH v31 true H (fun rest => bV (fLd1 v33 H) fun v34 => rest v34 H) fun v34 H => gdH v31 true H (fun rest => bV (fFad 3 (t6 E)) fun v35 => rest v35 H) fun v35 H => gdH v31 true H (fun rest => bV (fLd1 v35 H) fun v36 => rest v36 H) fun v36 H => gdH v31 true H (fun rest => bV (fEql false .s v34 v36) fun v37 => rest v37 H) fun v37 H => bV (fPick v31 v37 (.bool false)) fun v38 => gdH v38 true H (fun rest => bV (fFad 2 (t6 E)) fun v40 => rest v40 H) fun v40 H => gdH v38 true H (fun rest => bV (fLd1 v40 H) fun v41 => rest v41 H) fun v41 H => gdH v38 true H (fun rest => bV (fNeq true .i v41 (.int .u8 (.ofNat 9))) fun v42 => rest v42 H) fun v42 H => bV (fPick v38 v42 (.bool false)) fun v43 => gdH v43 true H (fun rest => bV (fFad 1 (t2 E)) fun v45 => rest v45 H) fun v45 H => gdH v43 true H (fun rest => bV (fLd1 v45 H) fun v46 => rest v46 H) fun v46 H => gdH v43 true H (fun rest => bV (fFad 2 (t2 E)) fun v47 => rest v47 H) fun v47 H => gdH v43 true H (fun rest => bV (fLd1 v47 H) fun v48 => rest v48 H) fun v48 H => gdH v43 true H (fun rest => bV (fNeq false .s v46 v48) fun v49 => rest v49 H) fun v49 H => bV (fPick v43 v49 (.bool false)) fun v50 => k (d3 E v50) H)
 retC))))) [fun E _ => some (t3 E)]
def pl94 : Nat × List (Nat × Plan) := (2251799813684992, [(1, ⟨[0, 1, 2, 3, 4, 5, 6, 7, 8, 9, 10, 11, 12], [0, 1, 3, 7, 0, 16, 63, 127, 255, 255, 0, 1535, 4095]⟩), (2, ⟨[0, 1, 2, 3, 4, 5, 6, 7, 8, 9, 10, 11, 12], [0, 1, 3, 7, 0, 16, 63, 127, 255, 255, 0, 1535, 4095]⟩)])
noncomputable def c95 : TT → FnC := fnC 2 ((seqC (rg fun T E H k => bM (fBox 67 11 (t0 E)) H fun v2 H => k (d3 (d2 E v2) (.bool false)) H)
 (seqC (rg fun T E H k => bV (fLd1 (t1 E) H) fun v6 => bV (fNilchk v6) fun v7 => bV (fFad 6 v7) fun v8 => bV (fLd1 v8 H) fun v9 => bV (fFad 0 (t2 E)) fun v10 => bV (fLd1 v10 H) fun v11 => bV (oLk .s .nils false v9 v11 H) fun v12 => bV (fLenV v12) fun v13 => bV (fLd1 (t1 E) H) fun v14 => bV (fNilchk v14) fun v15 => bV (fFad 7 v15) fun v16 => bV (fLd1 v16 H) fun v17 => bV (fFad 0 (t2 E)) fun v18 => bV (fLd1 v18 H) fun v19 => bV (oLk .s .nils false v17 v19 H) fun v20 => bV (fLenV v20) fun v21 => k (d5 (d4 E v13) v21) H)
 (seqC (seqC (rg fun T E H k => bV (fFad 2 (t2 E)) fun v22 => bV (fLd1 v22 H) fun v23 => k (d23 E v23) H)
 (blockC 0 (seqC (seqC (rg fun T E H k => bV (fEql true .i (t23 E) (.int .u8 (.ofNat 1))) fun v25 => k (d24 E v25) H)
 (condF t24
 skipC
 (rg fun T E H k => bV (fEql true .i (t23 E) (.int .u8 (.ofNat 9))) fun v26 => k (d24 E v26) H)))
 (condF t24
 (seqC (rg fun T E H k => bV (fEql true .i (t4 E) (.int .i64 (.ofNat 0))) fun v28 => gdH v28 true H (fun rest => bV (some (t5 E)) fun v30 => rest v30 H) fun v30 H => gdH v28 true H (fun rest => bV (fEql true .i v30 (.int .i64 (.ofNat 1))) fun v31 => rest v31 H) fun v31 H => bV (fPick v28 v31 (.bool false)) fun v32 => k (d3 E v32) H)
 retC)
 (seqC (rg fun T E H k => bV (fEql true .i (t23 E) (.int .u8 (.ofNat 2))) fun v34 => k (d33 E v34) H)
 (condF t33
 (seqC (rg fun T E H k => bV (fEql true .i (t4 E) (.int .i64 (.ofNat 1))) fun v36 => gdH v36 true H (fun rest => bV (some (t5 E)) fun v38 => rest v38 H) fun v38 H => gdH v36 true H (fun rest => bV (fEql true .i v38 (.int .i64 (.ofNat 0))) fun v39 => rest v39 H) fun v39 H => bV (fPick v36 v39 (.bool false)) fun v40 => k (d3 E v40) H)
 retC)
 (seqC (seqC (rg fun T E H k => bV (fEql true .i (t23 E) (.int .u8 (.ofNat 5))) fun v42 => k (d41 E v42) H)
 (condF t41
 skipC
 (rg fun T E H k => bV (fEql true .i (t23 E) (.int .u8 (.ofNat 6))) fun v43 => k (d41 E v43) H)))
 (condF t41
 (seqC (rg fun T E H k => bV (fGeq (t4 E) (.int .i64 (.ofNat 1))) fun v45 => gdH v45 true H (fun rest => bV (some (t5 E)) fun v47 => rest v47 H) fun v47 H => gdH v45 true H (fun rest => bV (fGeq v47 (.int .i64 (.ofNat 1))) fun v48 => rest v48 H) fun v48 H => bV (fPick v45 v48 (.bool false)) fun v49 => k (d3 E v49) H)
 retC)
 (seqC (rg fun T E H k => bV (fEql true .i (t23 E) (.int .u8 (.ofNat 7))) fun v51 => k (d50 E v51) H)
 (condF t50
 (seqC (rg fun T E H k => bV (fEql true .i (t4 E) (.int .i64 (.ofNat 1))) fun v53 => gdH v53 true H (fun rest => bV (some (t5 E)) fun v55 => rest v55 H) fun v55 H => gdH v53 true H (fun rest => bV (fGeq v55 (.int .i64 (.ofNat 2))) fun v56 => rest v56 H) fun v56 H => bV (fPick v53 v56 (.bool false)) fun v57 => gdH v57 true H (fun rest => bV (fLd1 (t1 E) H) fun v59 => rest v59 H) fun v59 H => gdH v57 true H (fun rest => bV (fNilchk v59) fun v60 => rest v60 H) fun v60 H => gdH v57 true H (fun rest => bV (fFad 7 v60) fun v61 => rest v61 H) fun v61 H => gdH v57 true H (fun rest => bV (fLd1 v61 H) fun v62 => rest v62 H) fun v62 H => gdH v57 true H (fun rest => bV (fFad 0 (t2 E)) fun v63 => rest v63 H) fun v63 H => gdH v57 true H (fun rest => bV (fLd1 v63 H) fun v64 => rest v64 H) fun v64 H => gdH v57 true H (fun rest => bV (oLk .s .nils false v62 v64 H) fun v65 => rest v65 H) fun v65 H => gdH v57 true H (fun rest => bV (oFn (.func 97) 0 [(t1 E)]) fun v66 => rest v66 H) fun v66 H => gdH v57 true H (fun rest => T 96 [v65, v66] H fun v67 H => rest v67 H) fun v67 H => gdH v57 true H (fun rest => bV (fNot v67) fun v68 => rest v68 H) fun v68 H => bV (fPick v57 v68 (.bool false)) fun v69 => k (d3 E v69) H)
 retC)
 skipC))))))))))
 (seqC (rg fun T E H k => bV (fEql true .i (t4 E) (.int .i64 (.ofNat 1))) fun v71 => gdH v71 true H (fun rest => bV (some (t5 E)) fun v73 => rest v73 H) fun v73 H => gdH v71 true H (fun rest => bV (fEql true .i v73 (.int .i64 (.ofNat 1))) fun v74 => rest v74 H) fun v74 H => bV (fPick v71 v74 (.bool false)) fun v75 => k (d3 E v75) H)
 retC))))) [fun E _ => some (t3 E)]
def pl95 : Nat × List (Nat × Plan) := (75557862597806778220480, [(1, ⟨[0, 1, 2, 3, 4, 5, 6, 7, 8, 9, 10, 11, 12, 13, 14, 15, 16, 17], [0, 1, 3, 7, 0, 16, 63, 127, 0, 256, 768, 1792, 0, 4096, 16128, 32512, 255, 131071]⟩), (12, ⟨[0, 1, 2, 3, 4, 5, 6, 7, 8, 9, 10, 11, 12, 13, 14, 15, 16, 17, 18], [0, 1, 3, 7, 15, 31, 63, 127, 255, 511, 1023, 127, 2175, 8191, 127, 32767, 65535, 131071, 262143]⟩)])
noncomputable def c96 : TT → FnC := fnC 2 ((seqC (rg fun T E H k => k (d4 E (.bool false)) H)
 (seqC (rg fun T E H k => T 138 [(t0 E), (t1 E)] H fun v7 H => bV (fGeq v7 (.int .i64 (.ofNat 0))) fun v8 => k (d4 E v8) H)
 retC))) [fun E _ => some (t4 E)]
def pl96 : Nat × List (Nat × Plan) := (480, [])
noncomputable def c97 : TT → FnC := fnC 2 ((seqC (rg fun T E H k => bM (fBox 70 4 (t0 E)) H fun v2 H => k (d3 (d2 E v2) (.bool false)) H)
 (seqC (rg fun T E H k => bV (fLd1 (t1 E) H) fun v4 => bV (fNilchk v4) fun v5 => bV (fFad 5 v5) fun v6 => bV (fLd1 v6 H) fun v7 => bV (fFad 2 (t2 E)) fun v8 => bV (fLd1 v8 H) fun v9 => bV (oLk .s (.agg [(.str 0 0), (.str 0 0), (.int .u8 (.ofNat 0)), (.str 0 0), (.str 0 0), (.str 0 0), (.int .u8 (.ofNat 0)), (.str 0 0), (.str 0 0), (.int .i64 (.ofNat 0)), (.int .i64 (.ofNat 0))]) false v7 v9 H) fun v10 => bV (fFld1 2 v10) fun v11 => bV (fNeq true .i v11 (.int .u8 (.ofNat 8))) fun v12 => gdH v12 false H (fun rest => bV (fLd1 (t1 E) H) fun v14 => rest v14 H) fun v14 H => gdH v12 false H (fun rest => bV (fNilchk v14) fun v15 => rest v15 H) fun v15 H => gdH v12 false H (fun rest => bV (fFad 6 v15) fun v16 => rest v16 H) fun v16 H => gdH v12 false H (fun rest => bV (fLd1 v16 H) fun v17 => rest v17 H) fun v17 H => gdH v12 false H (fun rest => bV (fFad 2 (t2 E)) fun v18 => rest v18 H) fun v18 H => gdH v12 false H (fun rest => bV (fLd1 v18 H) fun v19 => rest v19 H) fun v19 H => gdH v12 false H (fun rest => bV (oLk .s .nils false v17 v19 H) fun v20 => rest v20 H) fun v20 H => gdH v12 false H (fun rest => bV (fLenV v20) fun v21 => rest v21 H) fun v21 H => gdH v12 false H (fun rest => bV (fNeq true .i v21 (.int .i64 (.ofNat 1))) fun v22 => rest v22 H) fun v22 H => bV (fPick v12 (.bool true) v22) fun v23 => k (d3 E v23) H)
 retC))) [fun E _ => some (t3 E)]
def pl97 : Nat × List (Nat × Plan) := (16777200, [(1, ⟨[0, 1, 2, 3, 4, 5, 6, 7, 8, 9, 10, 11, 12, 13, 14, 15, 16, 17, 18, 19, 20], [0, 1, 3, 7, 0, 16, 63, 127, 255, 511, 1023, 2047, 4095, 8191, 1023, 17407, 65535, 131071, 262143, 524287, 1048575]⟩)])
noncomputable def c98 : TT → FnC := fnC 3 ((seqC (rg fun T E H k => bM (fBox 92 1 (t2 E)) H fun v5 H => k (d7 (d6 (d5 E v5) (.str 0 0)) (.bool false)) H)
 (seqC (rg fun T E H k => bV (oFn (.func 141) 0 [(t5 E)]) fun v10 => T 80 [(t0 E), v10] H fun v11 H => k (d8 E v11) H)
 (seqC (seqC (rg fun T E H k => bV (fLss (t8 E) (.int .i64 (.ofNat 0))) fun v13 => k (d13 E v13) H)
 (condF t13
 (seqC (rg fun T E H k => k (d7 (d6 E (.str 0 0)) (.bool false)) H)
 retC)
 skipC))
 (seqC (rg fun T E H k => bV (fIaS 1 (t0 E) (t8 E)) fun v17 => bV (fLd1 v17 H) fun v18 => onFnV [(t1 E), v18] fun f l => T f l H fun v19 H => k (d7 (d6 E v19) (.bool true)) H)
 retC))))) [fun E _ => some (t6 E), fun E _ => some (t7 E)]
def pl98 : Nat × List (Nat × Plan) := (1039872, [])
noncomputable def c100 : TT → FnC := fnC 2 ((seqC (rg fun T E H k => k (d3 E (.bool false)) H)
 (seqC (rg fun T E H k => bV (fLd1 (t1 E) H) fun v4 => bV (oLk .s (.agg [(.int .i64 (.ofNat 0)), (.int .i64 (.ofNat 0))]) false v4 (t0 E) H) fun v6 => bV (fIx1 2 1 v6 (.int .i64 (.ofNat 0))) fun v7 => bV (fEql true .i v7 (.int .i64 (.ofNat 1))) fun v8 => gdH v8 true H (fun rest => bV (fLd1 (t1 E) H) fun v10 => rest v10 H) fun v10 H => gdH v8 true H (fun rest => bV (some (t0 E)) fun v11 => rest v11 H) fun v11 H => gdH v8 true H (fun rest => bV (oLk .s (.agg [(.int .i64 (.ofNat 0)), (.int .i64 (.ofNat 0))]) false v10 v11 H) fun v12 => rest v12 H) fun v12 H => gdH v8 true H (fun rest => bV (fIx1 2 1 v12 (.int .i64 (.ofNat 1))) fun v13 => rest v13 H) fun v13 H => gdH v8 true H (fun rest => bV (fGeq v13 (.int .i64 (.ofNat 1))) fun v14 => rest v14 H) fun v14 H => bV (fPick v8 v14 (.bool false)) fun v15 => k (d3 E v15) H)
 retC))) [fun E _ => some (t3 E)]
def pl100 : Nat × List (Nat × Plan) := (65520, [])
noncomputable def c101 : TT → FnC := fnC 2 ((seqC (rg fun T E H k => bM (fBox 67 11 (t0 E)) H fun v2 H => k (d3 (d2 E v2) (.bool false)) H)
 (seqC (rg fun T E H k => bV (fLd1 (t1 E) H) fun v5 => bV (fNilchk v5) fun v6 => bV (fFad 7 v6) fun v7 => bV (fLd1 v7 H) fun v8 => bV (fFad 0 (t2 E)) fun v9 => bV (fLd1 v9 H) fun v10 => bV (oLk .s .nils false v8 v10 H) fun v11 => k (d4 E v11) H)
 (seqC (blockC 0 (seqC (rg fun T E H k => bV (fFad 2 (t2 E)) fun v13 => bV (fLd1 v13 H) fun v14 => bV (fNeq true .i v14 (.int .u8 (.ofNat 5))) fun v15 => k (d12 E v15) H)
 (condF t12
 (seqC (rg fun T E H k => k (d3 E (.bool true)) H)
 retC)
 (seqC (rg fun T E H k => bV (fLenV (t4 E)) fun v18 => bV (fEql true .i v18 (.int .i64 (.ofNat 1))) fun v19 => k (d16 E v19) H)
 (condF t16
 (seqC (rg fun T E H k => bV (fFad 4 (t2 E)) fun v20 => bV (fLd1 v20 H) fun v21 => bV (fEql true .s v21 (.str 0 0)) fun v22 => k (d3 E v22) H)
 retC)
 skipC)))))
 (seqC (rg fun T E H k => bV (oFn (.func 102) 0 [(t2 E)]) fun v24 => T 96 [(t4 E), v24] H fun v25 H => k (d3 E v25) H)
 retC))))) [fun E _ => some (t3 E)]
def pl101 : Nat × List (Nat × Plan) := (67039200, [(1, ⟨[0, 1, 2, 3, 4, 5, 6, 7], [0, 1, 3, 7, 0, 16, 63, 127]⟩)])
noncomputable def c102 : TT → FnC := fnC 2 ((seqC (rg fun T E H k => bM (fBox 70 4 (t0 E)) H fun v2 H => k (d3 (d2 E v2) (.bool false)) H)
 (seqC (rg fun T E H k => bV (fFad 0 (t2 E)) fun v4 => bV (fLd1 v4 H) fun v5 => bV (fFad 4 (t1 E)) fun v6 => bV (fLd1 v6 H) fun v7 => bV (fEql false .s v5 v7) fun v8 => k (d3 E v8) H)
 retC))) [fun E _ => some (t3 E)]
def pl102 : Nat × List (Nat × Plan) := (496, [])
noncomputable def c103 : TT → FnC := fnC 2 ((seqC (rg fun T E H k => bM (fBox 70 4 (t0 E)) H fun v2 H => k (d3 (d2 E v2) (.bool false)) H)
 (seqC (rg fun T E H k => bV (fLd1 (t1 E) H) fun v5 => bV (fNilchk v5) fun v6 => bV (fFad 5 v6) fun v7 => bV (fLd1 v7 H) fun v8 => bV (fFad 1 (t2 E)) fun v9 => bV (fLd1 v9 H) fun v10 => bV (oLk .s (.agg [(.str 0 0), (.str 0 0), (.int .u8 (.ofNat 0)), (.str 0 0), (.str 0 0), (.str 0 0), (.int .u8 (.ofNat 0)), (.str 0 0), (.str 0 0), (.int .i64 (.ofNat 0)), (.int .i64 (.ofNat 0))]) false v8 v10 H) fun v11 => bM (fNew 67 [(.str 0 0), (.str 0 0), (.int .u8 (.ofNat 0)), (.str 0 0), (.str 0 0), (.str 0 0), (.int .u8 (.ofNat 0)), (.str 0 0), (.str 0 0), (.int .i64 (.ofNat 0)), (.int .i64 (.ofNat 0))] []) H fun v4 H => bE (fSt 11 v4 v11 H) H fun _ H => k (d4 E v4) H)
 (seqC (seqC (rg fun T E H k => bV (fFad 2 (t4 E)) fun v12 => bV (fLd1 v12 H) fun v13 => bV (fEql true .i v13 (.int .u8 (.ofNat 5))) fun v14 => gdH v14 true H (fun rest => bV (fLd1 (t1 E) H) fun v16 => rest v16 H) fun v16 H => gdH v14 true H (fun rest => bV (fNilchk v16) fun v17 => rest v17 H) fun v17 H => gdH v14 true H (fun rest => bV (fFad 7 v17) fun v18 => rest v18 H) fun v18 H => gdH v14 true H (fun rest => bV (fLd1 v18 H) fun v19 => rest v19 H) fun v19 H => gdH v14 true H (fun rest => bV (fFad 1 (t2 E)) fun v20 => rest v20 H) fun v20 H => gdH v14 true H (fun rest => bV (fLd1 v20 H) fun v21 => rest v21 H) fun v21 H => gdH v14 true H (fun rest => bV (oLk .s .nils false v19 v21 H) fun v22 => rest v22 H) fun v22 H => gdH v14 true H (fun rest => bV (fLenV v22) fun v23 => rest v23 H) fun v23 H => gdH v14 true H (fun rest => bV (fGtr v23 (.int .i64 (.ofNat 1))) fun v24 => rest v24 H) fun v24 H => bV (fPick v14 v24 (.bool false)) fun v25 => gdH v25 true H (fun rest => bV (fFad 4 (t4 E)) fun v27 => rest v27 H) fun v27 H => gdH v25 true H (fun rest => bV (fLd1 v27 H) fun v28 => rest v28 H) fun v28 H => gdH v25 true H (fun rest => bV (fFad 0 (t2 E)) fun v29 => rest v29 H) fun v29 H => gdH v25 true H (fun rest => bV (fLd1 v29 H) fun v30 => rest v30 H) fun v30 H => gdH v25 true H (fun rest => bV (fNeq false .s v28 v30) fun v31 => rest v31 H) fun v31 H => bV (fPick v25 v31 (.bool false)) fun v32 => k (d32 E v32) H)
 (condF t32
 (seqC (rg fun T E H k => bV (fFad 3 (t2 E)) fun v33 => bV (fLd1 v33 H) fun v34 => bV (fNeq true .s v34 (.str 0 0)) fun v35 => gdH v35 true H (fun rest => bV (fFad 3 (t2 E)) fun v37 => rest v37 H) fun v37 H => gdH v35 true H (fun rest => bV (fLd1 v37 H) fun v38 => rest v38 H) fun v38 H => gdH v35 true H (fun rest => bV (fLd1 (t1 E) H) fun v39 => rest v39 H) fun v39 H => gdH v35 true H (fun rest => bV (fNilchk v39) fun v40 => rest v40 H) fun v40 H => gdH v35 true H (fun rest => bV (fFad 0 v40) fun v41 => rest v41 H) fun v41 H => gdH v35 true H (fun rest => bV (fFad 2 v41) fun v42 => rest v42 H) fun v42 H => gdH v35 true H (fun rest => bV (fLd1 v42 H) fun v43 => rest v43 H) fun v43 H => gdH v35 true H (fun rest => T 104 [v38, v43] H fun v44 H => rest v44 H) fun v44 H => bV (fPick v35 v44 (.bool false)) fun v45 => k (d3 E v45) H)
 retC)
 skipC))
 (seqC (rg fun T E H k => bV (fFad 3 (t2 E)) fun v46 => bV (fLd1 v46 H) fun v47 => bV (fEql true .s v47 (.str 0 0)) fun v48 => k (d3 E v48) H)
 retC))))) [fun E _ => some (t3 E)]
def pl103 : Nat × List (Nat × Plan) := (562945658453984, [(1, ⟨[0, 1, 2, 3, 4, 5, 6, 7, 8], [0, 1, 3, 7, 0, 16, 63, 0, 255]⟩), (2, ⟨[0, 1, 2, 3, 4, 5, 6, 7, 8, 9, 10, 11, 12, 13, 14, 15, 16, 17, 18, 19, 20], [0, 1, 3, 7, 15, 31, 63, 127, 15, 271, 1023, 2047, 4095, 8191, 16383, 32767, 65535, 32767, 163839, 524287, 1048575]⟩), (3, ⟨[0, 1, 2, 3, 4, 5, 6, 7, 8, 9, 10, 11, 12, 13], [0, 1, 3, 7, 15, 31, 15, 79, 207, 463, 975, 2047, 4095, 8191]⟩)])
noncomputable def c104 : TT → FnC := fnC 2 ((seqC (rg fun T E H k => k (d4 E (.bool false)) H)
 (seqC (rg fun T E H k => T 23 [(t0 E)] H fun v12 H => bV (fExt 0 v12) fun v13 => bV (fExt 1 v12) fun v14 => bV (fExt 2 v12) fun v15 => bM (fNew 73 [(.int .u8 (.ofNat 0)), (.int .u8 (.ofNat 0)), (.int .i64 (.ofNat 0)), (.bool false), (.str 0 0), (.str 0 0), .nils] []) H fun v5 H => bE (fSt 7 v5 v13 H) H fun _ H => k (d7 (d5 E v5) v15) H)
 (seqC (rg fun T E H k => bV (fLdN 7 (t5 E) H) fun v17 => T 142 [v17, (t1 E)] H fun v19 H => bV (fExt 0 v19) fun v20 => bV (fExt 1 v19) fun v21 => k (d9 (d8 E v20) v21) H)
 (seqC (rg fun T E H k => bV (fEql true .i (t7 E) (.int .i64 (.ofNat 0))) fun v23 => gdH v23 true H (fun rest => bV (some (t9 E)) fun v25 => rest v25 H) fun v25 H => gdH v23 true H (fun rest => bV (fEql true .i v25 (.int .i64 (.ofNat 0))) fun v26 => rest v26 H) fun v26 H => bV (fPick v23 v26 (.bool false)) fun v27 => gdH v27 true H (fun rest => bV (some (t8 E)) fun v29 => rest v29 H) fun v29 H => gdH v27 true H (fun rest => bV (fEql true .i v29 (.int .u8 (.ofNat 2))) fun v30 => rest v30 H) fun v30 H => bV (fPick v27 v30 (.bool false)) fun v31 => k (d4 E v31) H)
 retC))))) [fun E _ => some (t4 E)]
def pl104 : Nat × List (Nat × Plan) := (4294966336, [])
noncomputable def c105 : TT → FnC := fnC 2 ((seqC (rg fun T E H k => bM (fBox 67 11 (t0 E)) H fun v2 H => k (d3 (d2 E v2) (.bool false)) H)
 (seqC (rg fun T E H k => bV (fLd1 (t1 E) H) fun v7 => bV (fNilchk v7) fun v8 => bV (fFad 5 v8) fun v9 => bV (fLd1 v9 H) fun v10 => bV (fFad 5 (t2 E)) fun v11 => bV (fLd1 v11 H) fun v12 => bV (oLk .s (.agg [(.str 0 0), (.str 0 0), (.int .u8 (.ofNat 0)), (.str 0 0), (.str 0 0), (.str 0 0), (.int .u8 (.ofNat 0)), (.str 0 0), (.str 0 0), (.int .i64 (.ofNat 0)), (.int .i64 (.ofNat 0))]) true v10 v12 H) fun v13 => bV (fExt 0 v13) fun v14 => bV (fExt 1 v13) fun v15 => bM (fNew 67 [(.str 0 0), (.str 0 0), (.int .u8 (.ofNat 0)), (.str 0 0), (.str 0 0), (.str 0 0), (.int .u8 (.ofNat 0)), (.str 0 0), (.str 0 0), (.int .i64 (.ofNat 0)), (.int .i64 (.ofNat 0))] []) H fun v4 H => bE (fSt 11 v4 v14 H) H fun _ H => k (d5 (d4 E v4) v15) H)
 (seqC (blockC 0 (seqC (rg fun T E H k => bV (fFad 2 (t2 E)) fun v17 => bV (fLd1 v17 H) fun v18 => bV (fNeq true .i v18 (.int .u8 (.ofNat 9))) fun v19 => k (d16 E v19) H)
 (condF t16
 (seqC (rg fun T E H k => k (d3 E (.bool true)) H)
 retC)
 (seqC (rg fun T E H k => bV (fNot (t5 E)) fun v22 => gdH v22 false H (fun rest => bV (fFad 3 (t4 E)) fun v24 => rest v24 H) fun v24 H => gdH v22 false H (fun rest => bV (fLd1 v24 H) fun v25 => rest v25 H) fun v25 H => gdH v22 false H (fun rest => bV (fFad 3 (t2 E)) fun v26 => rest v26 H) fun v26 H => gdH v22 false H (fun rest => bV (fLd1 v26 H) fun v27 => rest v27 H) fun v27 H => gdH v22 false H (fun rest => bV (fNeq false .s v25 v27) fun v28 => rest v28 H) fun v28 H => bV (fPick v22 (.bool true) v28) fun v29 => k (d20 E v29) H)
 (condF t20
 (seqC (rg fun T E H k => k (d3 E (.bool false)) H)
 retC)
 (seqC (rg fun T E H k => bV (fFad 2 (t4 E)) fun v31 => bV (fLd1 v31 H) fun v32 => bV (fEql true .i v32 (.int .u8 (.ofNat 3))) fun v33 => gdH v33 false H (fun rest => bV (fFad 2 (t4 E)) fun v35 => rest v35 H) fun v35 H => gdH v33 false H (fun rest => bV (fLd1 v35 H) fun v36 => rest v36 H) fun v36 H => gdH v33 false H (fun rest => bV (fEql true .i v36 (.int .u8 (.ofNat 4))) fun v37 => rest v37 H) fun v37 H => bV (fPick v33 (.bool true) v37) fun v38 => k (d30 E v38) H)
 (condF t30
 (seqC (rg fun T E H k => k (d3 E (.bool true)) H)
 retC)
 (seqC (rg fun T E H k => bV (fFad 2 (t4 E)) fun v40 => bV (fLd1 v40 H) fun v41 => bV (fNeq true .i v41 (.int .u8 (.ofNat 10))) fun v42 => gdH v42 false H (fun rest => bV (fFad 6 (t2 E)) fun v44 => rest v44 H) fun v44 H => gdH v42 false H (fun rest => bV (fLd1 v44 H) fun v45 => rest v45 H) fun v45 H => gdH v42 false H (fun rest => bV (fEql true .i v45 (.int .u8 (.ofNat 1))) fun v46 => rest v46 H) fun v46 H => bV (fPick v42 (.bool true) v46) fun v47 => k (d39 E v47) H)
 (condF t39
 (seqC (rg fun T E H k => k (d3 E (.bool false)) H)
 retC)
 skipC)))))))))
 (seqC (rg fun T E H k => bV (fLd1 (t1 E) H) fun v48 => bV (fNilchk v48) fun v49 => bV (fFad 0 v49) fun v50 => bV (fFad 3 v50) fun v51 => bV (fLd1 v51 H) fun v52 => bV (oFn (.func 107) 0 [(t1 E), (t4 E)]) fun v53 => T 106 [v52, v53] H fun v54 H => bV (fNot v54) fun v55 => k (d3 E v55) H)
 retC))))) [fun E _ => some (t3 E)]
def pl105 : Nat × List (Nat × Plan) := (72057043207258048, [(1, ⟨[0, 1, 2, 3, 4, 5, 6, 7, 8, 9, 10, 11, 12], [0, 1, 3, 7, 0, 16, 63, 127, 255, 255, 0, 1535, 4095]⟩)])
noncomputable def c106 : TT → FnC := fnC 2 ((seqC (rg fun T E H k => k (d4 E (.bool false)) H)
 (seqC (rg fun T E H k => T 25 [(t0 E), (t1 E)] H fun v7 H => bV (fGeq v7 (.int .i64 (.ofNat 0))) fun v8 => k (d4 E v8) H)
 retC))) [fun E _ => some (t4 E)]
def pl106 : Nat × List (Nat × Plan) := (480, [])
noncomputable def c107 : TT → FnC := fnC 3 ((seqC (rg fun T E H k => bM (fBox 67 11 (t0 E)) H fun v3 H => k (d4 (d3 E v3) (.bool false)) H)
 (seqC (rg fun T E H k => bV (fFad 2 (t3 E)) fun v5 => bV (fLd1 v5 H) fun v6 => bV (fEql true .i v6 (.int .u8 (.ofNat 6))) fun v7 => gdH v7 true H (fun rest => bV (fLd1 (t1 E) H) fun v9 => rest v9 H) fun v9 H => gdH v7 true H (fun rest => bV (fFad 0 (t3 E)) fun v10 => rest v10 H) fun v10 H => gdH v7 true H (fun rest => bV (fLd1 v10 H) fun v11 => rest v11 H) fun v11 H => gdH v7 true H (fun rest => bV (fFad 0 (t2 E)) fun v13 => rest v13 H) fun v13 H => gdH v7 true H (fun rest => bV (fLd1 v13 H) fun v14 => rest v14 H) fun v14 H => gdH v7 true H (fun rest => T 108 [v9, v11] H fun v12 H => gdK v7 true (agn (fLd1 v13 H) v14) <| rest v12 H) fun v12 H => gdH v7 true H (fun rest => T 74 [v12, v14] H fun v15 H => rest v15 H) fun v15 H => bV (fPick v7 v15 (.bool false)) fun v16 => k (d4 E v16) H)
 retC))) [fun E _ => some (t4 E)]
def pl107 : Nat × List (Nat × Plan) := (131040, [(1, ⟨[0, 1, 2, 3, 4, 5, 6, 8, 9, 7, 10, 11, 12], [0, 1, 3, 7, 15, 15, 47, 127, 15, 271, 1023, 2047, 4095]⟩)])
noncomputable def c108 : TT → FnC := fnC 2 ((seqC (rg fun T E H k => k (d4 E .nils) H)
 (seqC (rg fun T E H k => k (d5 E .nils) H)
 (seqC (seqC (rg fun T E H k => bV (fNilchk (t0 E)) fun v10 => bV (fFad 5 v10) fun v11 => bV (fLd1 v11 H) fun v12 => bV (oLk .s (.agg [(.str 0 0), (.str 0 0), (.int .u8 (.ofNat 0)), (.str 0 0), (.str 0 0), (.str 0 0), (.int .u8 (.ofNat 0)), (.str 0 0), (.str 0 0), (.int .i64 (.ofNat 0)), (.int .i64 (.ofNat 0))]) false v12 (t1 E) H) fun v14 => bM (fNew 67 [(.str 0 0), (.str 0 0), (.int .u8 (.ofNat 0)), (.str 0 0), (.str 0 0), (.str 0 0), (.int .u8 (.ofNat 0)), (.str 0 0), (.str 0 0), (.int .i64 (.ofNat 0)), (.int .i64 (.ofNat 0))] []) H fun v6 H => bE (fSt 11 v6 v14 H) H fun _ H => k (d6 E v6) H)
 (blockC 0 (loopC (seqC (seqC (rg fun T E H k => bV (fFad 3 (t6 E)) fun v15 => bV (fLd1 v15 H) fun v16 => bV (fNeq true .s v16 (.str 0 0)) fun v17 => gdH v17 true H (fun rest => bV (some (t5 E)) fun v19 => rest v19 H) fun v19 H => gdH v17 true H (fun rest => bV (fLenV v19) fun v20 => rest v20 H) fun v20 H => gdH v17 true H (fun rest => bV (fLss v20 (.int .i64 (.ofNat 64))) fun v21 => rest v21 H) fun v21 H => bV (fPick v17 v21 (.bool false)) fun v22 => k (d22 E v22) H)
 (condF t22
 skipC
 (exitC 0)))
 (seqC (blockC 1 (seqC (rg fun T E H k => bV (fNilchk (t0 E)) fun v25 => bV (fFad 5 v25) fun v26 => bV (fLd1 v26 H) fun v27 => bV (fFad 3 (t6 E)) fun v28 => bV (fLd1 v28 H) fun v29 => bV (oLk .s (.agg [(.str 0 0), (.str 0 0), (.int .u8 (.ofNat 0)), (.str 0 0), (.str 0 0), (.str 0 0), (.int .u8 (.ofNat 0)), (.str 0 0), (.str 0 0), (.int .i64 (.ofNat 0)), (.int .i64 (.ofNat 0))]) true v27 v29 H) fun v30 => bV (fExt 0 v30) fun v31 => bV (fExt 1 v30) fun v32 => bM (fNew 67 [(.str 0 0), (.str 0 0), (.int .u8 (.ofNat 0)), (.str 0 0), (.str 0 0), (.str 0 0), (.int .u8 (.ofNat 0)), (.str 0 0), (.str 0 0), (.int .i64 (.ofNat 0)), (.int .i64 (.ofNat 0))] []) H fun v7 H => bE (fSt 11 v7 v31 H) H fun _ H => k (d8 (d7 E v7) v32) H)
 (seqC (seqC (rg fun T E H k => bV (fNot (t8 E)) fun v34 => gdH v34 false H (fun rest => bV (fFad 2 (t7 E)) fun v36 => rest v36 H) fun v36 H => gdH v34 false H (fun rest => bV (fLd1 v36 H) fun v37 => rest v37 H) fun v37 H => gdH v34 false H (fun rest => bV (fNeq true .i v37 (.int .u8 (.ofNat 10))) fun v38 => rest v38 H) fun v38 H => bV (fPick v34 (.bool true) v38) fun v39 => k (d39 E v39) H)
 (condF t39
 (exitC 0)
 skipC))
 (seqC (rg fun T E H k => bV (fFad 0 (t7 E)) fun v41 => bV (fLd1 v41 H) fun v42 => bM (fSlice 9 1 [(.str 0 0)] [(0, 1)] [v42]) H fun v43 H => bE (fApp 9 1 16 (t5 E) v43 H) H fun v44 H => k (d5 E v44) H)
 (rg fun T E H k => bV (fLdN 11 (t7 E) H) fun v45 => bE (fSt 11 (t6 E) v45 H) H fun _ H => k E H)))))
 (seqC (rg fun T E H k => bV (fLdN 11 (t6 E) H) fun v46 => k (d46 E v46) H)
 (rg fun T E H k => bM (fNew 67 [(.str 0 0), (.str 0 0), (.int .u8 (.ofNat 0)), (.str 0 0), (.str 0 0), (.str 0 0), (.int .u8 (.ofNat 0)), (.str 0 0), (.str 0 0), (.int .i64 (.ofNat 0)), (.int .i64 (.ofNat 0))] []) H fun v6 H => bE (fSt 11 v6 (t46 E) H) H fun _ H => k (d6 E v6) H)))))))
 (seqC (rg fun T E H k => k (d4 E (t5 E)) H)
 retC))))) [fun E _ => some (t4 E)]
def pl108 : Nat × List (Nat × Plan) := (210556472524288, [(4, ⟨[0, 1, 2, 3, 4, 5, 6, 7, 8, 9, 10, 11, 12], [0, 1, 3, 7, 0, 16, 63, 127, 255, 255, 0, 1535, 4095]⟩)])
noncomputable def c109 : TT → FnC := fnC 2 ((seqC (rg fun T E H k => bM (fBox 67 11 (t0 E)) H fun v2 H => k (d3 (d2 E v2) (.bool false)) H)
 (seqC (rg fun T E H k => bV (fFad 6 (t2 E)) fun v4 => bV (fLd1 v4 H) fun v5 => bV (fNeq true .i v5 (.int .u8 (.ofNat 2))) fun v6 => gdH v6 false H (fun rest => bV (fLd1 (t1 E) H) fun v8 => rest v8 H) fun v8 H => gdH v6 false H (fun rest => bV (fNilchk v8) fun v9 => rest v9 H) fun v9 H => gdH v6 false H (fun rest => bV (fFad 0 v9) fun v10 => rest v10 H) fun v10 H => gdH v6 false H (fun rest => bV (fFad 2 v10) fun v11 => rest v11 H) fun v11 H => gdH v6 false H (fun rest => bV (fLd1 v11 H) fun v12 => rest v12 H) fun v12 H => gdH v6 false H (fun rest => bV (oFn (.func 111) 0 [(t2 E)]) fun v13 => rest v13 H) fun v13 H => gdH v6 false H (fun rest => T 110 [v12, v13] H fun v14 H => rest v14 H) fun v14 H => bV (fPick v6 (.bool true) v14) fun v15 => k (d3 E v15) H)
 retC))) [fun E _ => some (t3 E)]
def pl109 : Nat × List (Nat × Plan) := (65520, [])
noncomputable def c110 : TT → FnC := fnC 2 ((seqC (rg fun T E H k => k (d4 E (.bool false)) H)
 (seqC (rg fun T E H k => T 132 [(t0 E), (t1 E)] H fun v7 H => bV (fGeq v7 (.int .i64 (.ofNat 0))) fun v8 => k (d4 E v8) H)
 retC))) [fun E _ => some (t4 E)]
def pl110 : Nat × List (Nat × Plan) := (480, [])
noncomputable def c111 : TT → FnC := fnC 2 ((seqC (rg fun T E H k => bM (fBox 46 5 (t0 E)) H fun v2 H => k (d3 (d2 E v2) (.bool false)) H)
 (seqC (rg fun T E H k => bV (fFad 0 (t2 E)) fun v4 => bV (fLd1 v4 H) fun v5 => bV (fFad 8 (t1 E)) fun v6 => bV (fLd1 v6 H) fun v7 => bV (fEql false .s v5 v7) fun v8 => gdH v8 true H (fun rest => bV (fFad 1 (t2 E)) fun v10 => rest v10 H) fun v10 H => gdH v8 true H (fun rest => bV (fFad 0 v10) fun v11 => rest v11 H) fun v11 H => gdH v8 true H (fun rest => bV (fLd1 v11 H) fun v12 => rest v12 H) fun v12 H => gdH v8 true H (fun rest => bV (fEql true .i v12 (.int .u8 (.ofNat 3))) fun v13 => rest v13 H) fun v13 H => bV (fPick v8 v13 (.bool false)) fun v14 => k (d3 E v14) H)
 retC))) [fun E _ => some (t3 E)]
def pl111 : Nat × List (Nat × Plan) := (32752, [])
noncomputable def c112 : TT → FnC := fnC 2 ((seqC (rg fun T E H k => k (d3 E (.bool false)) H)
 (seqC (rg fun T E H k => bV (fLd1 (t1 E) H) fun v5 => bV (fNilchk v5) fun v6 => bV (fFad 5 v6) fun v7 => bV (fLd1 v7 H) fun v8 => bV (oLk .s (.agg [(.str 0 0), (.str 0 0), (.int .u8 (.ofNat 0)), (.str 0 0), (.str 0 0), (.str 0 0), (.int .u8 (.ofNat 0)), (.str 0 0), (.str 0 0), (.int .i64 (.ofNat 0)), (.int .i64 (.ofNat 0))]) false v8 (t0 E) H) fun v10 => bV (fFld1 2 v10) fun v11 => k (d4 E v11) H)
 (seqC (rg fun T E H k => bV (fEql true .i (t4 E) (.int .u8 (.ofNat 5))) fun v13 => gdH v13 false H (fun rest => bV (some (t4 E)) fun v15 => rest v15 H) fun v15 H => gdH v13 false H (fun rest => bV (fEql true .i v15 (.int .u8 (.ofNat 6))) fun v16 => rest v16 H) fun v16 H => bV (fPick v13 (.bool true) v16) fun v17 => gdH v17 false H (fun rest => bV (some (t4 E)) fun v19 => rest v19 H) fun v19 H => gdH v17 false H (fun rest => bV (fEql true .i v19 (.int .u8 (.ofNat 10))) fun v20 => rest v20 H) fun v20 H => bV (fPick v17 (.bool true) v20) fun v21 => k (d3 E v21) H)
 retC)))) [fun E _ => some (t3 E)]
def pl112 : Nat × List (Nat × Plan) := (4194272, [])
end Go.Am
